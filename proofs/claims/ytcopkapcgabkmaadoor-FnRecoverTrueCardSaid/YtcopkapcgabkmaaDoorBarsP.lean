/-
  PLAIN FACTS on bars: the bars of a code, the digits of bars. By an AI agent.
-/
import Derived.Test.YtcopkapcgabkmaaDoorBars
import Derived.Test.YtcopkapcgabkmaaDoorSums
import Derived.Test.YtcopkapcgabkmaaDoorPad
import Derived.Lib.Strings
namespace Go.Proofs.YtcopkapcgabkmaaDoor
open Go.RowKit

theorem barL_len (d : Nat) (h : d < 10) : (barL d).length = 5 := by
  match d, h with
  | 0, _ | 1, _ | 2, _ | 3, _ | 4, _ | 5, _ | 6, _ | 7, _ | 8, _ | 9, _ => rfl
theorem barsD_barL (d : Nat) (h : d < 10) : barsD (barL d) = d := by
  match d, h with
  | 0, _ | 1, _ | 2, _ | 3, _ | 4, _ | 5, _ | 6, _ | 7, _ | 8, _ | 9, _ => decide
theorem barsD_lo (b : List UInt8) : -1 ≤ barsD b ∧ barsD b ≤ 9 := by
  rcases barsD_cases b with h | ⟨k, hk, h, _⟩ <;> omega
theorem barsD_eq (b : List UInt8) (h : 0 ≤ barsD b) : b = barL (barsD b).toNat := by
  rcases barsD_cases b with h1 | ⟨k, hk, h1, h2⟩
  · omega
  · rw [h1]; exact h2.symm
/-- The bars of one byte that is a digit. -/
def barC (c : UInt8) : List UInt8 := barL (c.toNat - 48)
theorem digitBar_c (c : UInt8) (h : digB c = true) : digitBarS ((c.toNat : Int) - 48) = bs (barC c) := by
  simp [digB] at h
  rw [digitBarS, if_pos (by omega), show ((c.toNat : Int) - 48).toNat = c.toNat - 48 by omega]; rfl
theorem barC_len (c : UInt8) (h : digB c = true) : (barC c).length = 5 := by
  simp [digB] at h; exact barL_len _ (by omega)
theorem flat_len : ∀ (l : List UInt8), allDig l = true → (l.flatMap barC).length = 5 * l.length
  | [], _ => rfl
  | c :: l, h => by
    simp only [allDig, List.all_cons, Bool.and_eq_true] at h
    have := flat_len l h.2
    rw [List.flatMap_cons, List.length_append, barC_len c h.1, this, List.length_cons]; omega
/-- The bars of a code. -/
def barsL (s : ByteArray) : List UInt8 := [124] ++ s.data.toList.flatMap barC ++ barL (chkD s).toNat ++ [124]
/-- What BarsOf answers. -/
def barsV (s : ByteArray) : Value := if codeB s = true then .tuple #[.string (bs (barsL s)), .bool true] else .tuple #[.string ⟨#[]⟩, .bool false]
theorem codeB_parts2 {s : ByteArray} (h : codeB s = true) : s.size = 7 ∧ allDig s.data.toList = true := by simpa [codeB] using h
theorem code_digs (s : ByteArray) (h : codeB s = true) : digsB s = true := by
  obtain ⟨h1, h2⟩ := codeB_parts2 h
  simp [digsB, h2]; omega
theorem chk_range (s : ByteArray) (h : digsB s = true) : 0 ≤ chkD s ∧ chkD s ≤ 9 := by
  unfold chkD; rw [if_pos h]; omega
theorem flat_snoc (s : ByteArray) (k : Nat) (hk : k < s.size) : 124 :: (s.data.toList.take (k + 1)).flatMap barC = 124 :: (s.data.toList.take k).flatMap barC ++ barC s[k] := by
  rw [take_snoc s k hk]; simp

/-- A group of bars, and its digit. -/
def grp (b : ByteArray) (i : Nat) : ByteArray := b.extract (1 + 5 * i) (6 + 5 * i)
def gd (b : ByteArray) (i : Nat) : Int := barsD (grp b i).data.toList
theorem gd_lo (b : ByteArray) (i : Nat) : -1 ≤ gd b i ∧ gd b i ≤ 9 := barsD_lo _
def pos (d : Int) : Int := if d < 0 then 0 else d
theorem pos_range (b : ByteArray) (i : Nat) : 0 ≤ pos (gd b i) ∧ pos (gd b i) ≤ 9 := by
  have := gd_lo b i; unfold pos; split <;> omega
/-- The sum of the first digits that are read. -/
def sumG (b : ByteArray) : Nat → Int
  | 0 => 0
  | k + 1 => sumG b k + pos (gd b k)
theorem sumG_range (b : ByteArray) : ∀ k, 0 ≤ sumG b k ∧ sumG b k ≤ 9 * k
  | 0 => by simp [sumG]
  | k + 1 => by have := sumG_range b k; have := pos_range b k; simp only [sumG]; omega
/-- Which of the first digits is not read (-1: all are); none: more than one. -/
def lostG (b : ByteArray) : Nat → Option Int
  | 0 => some (-1)
  | k + 1 => match lostG b k with
    | none => none
    | some u => if gd b k < 0 then (if 0 ≤ u then none else some k) else some u
/-- The digits, 0 for one that is not read. -/
def digL (b : ByteArray) (k : Nat) : List UInt8 := (List.range k).map fun i => dgB (pos (gd b i))
theorem digL_len (b : ByteArray) (k : Nat) : (digL b k).length = k := by simp [digL]
theorem digL_succ (b : ByteArray) (k : Nat) : digL b (k + 1) = digL b k ++ [dgB (pos (gd b k))] := by simp [digL, List.range_succ]
theorem digL_dig (b : ByteArray) (k : Nat) : allDig (digL b k) = true := by
  simp only [allDig, digL, List.all_map, List.all_eq_true]
  intro i _
  exact digB_dgB _ (pos_range b i).1 (pos_range b i).2
theorem digL_sum (b : ByteArray) : ∀ k, sumD (digL b k) = sumG b k
  | 0 => by simp [digL, sumD, sumG]
  | k + 1 => by
    rw [digL_succ, sumD_snoc, digL_sum b k, dgB_val _ (pos_range b k).1 (pos_range b k).2, sumG]; omega
theorem lostG_spec (b : ByteArray) : ∀ (k : Nat) (u : Int), lostG b k = some u → -1 ≤ u ∧ u < k ∧ (∀ i : Nat, i < k → (i : Int) ≠ u → 0 ≤ gd b i) ∧ (0 ≤ u → gd b u.toNat < 0)
  | 0, u, h => by
    simp [lostG] at h; subst h; exact ⟨by omega, by omega, fun i hi => by omega, fun h => by omega⟩
  | k + 1, u, h => by
    simp only [lostG] at h
    split at h
    · cases h
    · rename_i v hv
      obtain ⟨h1, h2, h3, h4⟩ := lostG_spec b k v hv
      split at h
      · rename_i hneg
        split at h
        · cases h
        · injection h with h; subst h
          refine ⟨by omega, by omega, fun i hi hne => h3 i (by omega) (by omega), fun _ => by simpa using hneg⟩
      · rename_i hpos
        injection h with h; subst h
        refine ⟨h1, by omega, fun i hi hne => ?_, h4⟩
        by_cases e : i = k
        · subst e; omega
        · exact h3 i (by omega) hne
theorem lostG_none (b : ByteArray) : ∀ (k n : Nat), lostG b k = none → k ≤ n → lostG b n = none
  | k, 0, h, hk => by obtain rfl : k = 0 := by omega
                      exact h
  | k, n + 1, h, hk => by
    by_cases e : k = n + 1
    · rw [← e]; exact h
    · simp only [lostG, lostG_none b k n h (by omega)]
/-- The digit that completes the others. -/
def fillD (b : ByteArray) : Int := (10 - sumG b 8 % 10) % 10
/-- What RecoverBars answers. -/
def recO (b : ByteArray) : Option (List UInt8) :=
  if b.size = 42 then match lostG b 8 with
    | none => none
    | some u => if 0 ≤ u then some (((digL b 8).set u.toNat (dgB (fillD b))).take 7) else if sumG b 8 % 10 = 0 then some ((digL b 8).take 7) else none
  else none
def optV : Option (List UInt8) → Value
  | some l => .tuple #[.string (bs l), .bool true]
  | none => .tuple #[.string ⟨#[]⟩, .bool false]
/-- What ReadBars answers. -/
def readO (b : ByteArray) : Option (List UInt8) :=
  if b.size = 42 ∧ b.data.toList[0]? = some 124 ∧ b.data.toList[41]? = some 124 ∧ (∀ i, i < 8 → 0 ≤ gd b i) then recO b else none

theorem fillD_range (b : ByteArray) : 0 ≤ fillD b ∧ fillD b ≤ 9 := by unfold fillD; omega
theorem digL_digs (b : ByteArray) : digsB (bs (digL b 8)) = true := by simp [digsB, bs_size, bs_list, digL_len, digL_dig]
theorem chk_fill (b : ByteArray) : chkD (bs (digL b 8)) = fillD b := by
  unfold chkD fillD; rw [if_pos (digL_digs b), bs_list, digL_sum]
theorem set_splice (l : List UInt8) (u : Nat) (x : UInt8) (h : u < l.length) : l.take u ++ [x] ++ l.drop (u + 1) = l.set u x := by
  rw [List.set_eq_take_append_cons_drop, if_pos h]; simp
theorem sumD_set' : ∀ (l : List UInt8) (i : Nat) (c : UInt8) (h : i < l.length), sumD (l.set i c) = sumD l - ((l[i].toNat : Int) - 48) + ((c.toNat : Int) - 48)
  | x :: l, 0, c, _ => by simp [sumD]; omega
  | x :: l, i + 1, c, h => by
    have := sumD_set' l i c (by simpa using h)
    simp only [sumD, List.set_cons_succ, List.map_cons, List.sum_cons, List.getElem_cons_succ] at this ⊢
    omega
theorem allDig_set' (l : List UInt8) (i : Nat) (c : UInt8) (h : allDig l = true) (hc : digB c = true) : allDig (l.set i c) = true := by
  simp only [allDig, List.all_eq_true] at h ⊢
  intro x hx
  rcases List.mem_or_eq_of_mem_set hx with h1 | h1
  · exact h x h1
  · rw [h1]; exact hc
/-- The filled digits are complete. -/
theorem fill_valid (b : ByteArray) (u : Nat) (hu : u < 8) (hn : gd b u < 0) : chkB (bs ((digL b 8).set u (dgB (fillD b)))) = true := by
  obtain ⟨f0, f9⟩ := fillD_range b
  have hz : (digL b 8)[u]'(by rw [digL_len]; exact hu) = dgB 0 := by simp [digL, pos, hn]
  have hs := sumD_set' (digL b 8) u (dgB (fillD b)) (by rw [digL_len]; exact hu)
  rw [hz, dgB_val 0 (by omega) (by omega), dgB_val _ f0 f9, digL_sum] at hs
  have hd : digsB (bs ((digL b 8).set u (dgB (fillD b)))) = true := by
    simp [digsB, bs_size, bs_list, digL_len, allDig_set' _ _ _ (digL_dig b 8) (digB_dgB _ f0 f9)]
  have he : (bs ((digL b 8).set u (dgB (fillD b)))).data.toList.isEmpty = false := list_ne_of_size _ (by rw [bs_size, List.length_set, digL_len]; omega)
  unfold chkB
  rw [hd, he, bs_list, hs]
  unfold fillD
  simp; omega
theorem all_valid (b : ByteArray) : chkB (bs (digL b 8)) = decide (sumG b 8 % 10 = 0) := by
  have he : (bs (digL b 8)).data.toList.isEmpty = false := list_ne_of_size _ (by rw [bs_size, digL_len]; omega)
  unfold chkB
  rw [digL_digs, he, bs_list, digL_sum]; simp

end Go.Proofs.YtcopkapcgabkmaaDoor
