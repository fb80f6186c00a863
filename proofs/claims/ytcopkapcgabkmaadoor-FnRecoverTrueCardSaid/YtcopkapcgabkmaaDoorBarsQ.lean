/-
  PLAIN FACTS on bars for the laws: changed bars, bars of a code, recovered bars. By an AI agent.
-/
import Derived.Test.YtcopkapcgabkmaaDoorDrawB
import Derived.Test.YtcopkapcgabkmaaDoorPut
namespace Go.Proofs.YtcopkapcgabkmaaDoor
open Go.RowKit

def cnt (c : UInt8) (l : List UInt8) : Nat := l.countP (fun x => x == c)
theorem cnt_snoc (c : UInt8) (l : List UInt8) (x : UInt8) : cnt c (l ++ [x]) = cnt c l + if x = c then 1 else 0 := by
  unfold cnt; rw [List.countP_append]; by_cases h : x = c <;> simp [h]
theorem cnt_le (c : UInt8) (l : List UInt8) : cnt c l ≤ l.length := List.countP_le_length
/-- A bar changed. -/
def flipC (c : UInt8) : UInt8 := if c = 124 then 46 else 124
theorem flip_bar (d : Nat) (h : d < 10) (k : Nat) (hk : k < 5) : barsD ((barL d).set k (flipC ((barL d).getD k 0))) = -1 := by
  match d, h with
  | 0, _ | 1, _ | 2, _ | 3, _ | 4, _ | 5, _ | 6, _ | 7, _ | 8, _ | 9, _ =>
    match k, hk with
    | 0, _ | 1, _ | 2, _ | 3, _ | 4, _ => decide
theorem cnt_bar (d : Nat) (h : d < 10) : cnt 124 (barL d) = 2 ∧ cnt 46 (barL d) = 3 := by
  match d, h with
  | 0, _ | 1, _ | 2, _ | 3, _ | 4, _ | 5, _ | 6, _ | 7, _ | 8, _ | 9, _ => decide
theorem rev_bar (d : Nat) (h : d < 10) : 0 ≤ barsD (barL d).reverse := by
  match d, h with
  | 0, _ | 1, _ | 2, _ | 3, _ | 4, _ | 5, _ | 6, _ | 7, _ | 8, _ | 9, _ => decide
theorem cnt_two : ∀ l : List UInt8, cnt 124 l + cnt 46 l = l.length → ∀ x ∈ l, x = 124 ∨ x = 46
  | [], _ => fun x hx => by cases hx
  | y :: l, h => by
    have h1 := cnt_le 124 l
    have hle : cnt 124 l + cnt 46 l ≤ l.length := by
      clear h h1
      induction l with
      | nil => simp [cnt]
      | cons z l ih =>
        unfold cnt at ih ⊢
        simp only [List.countP_cons, List.length_cons]
        by_cases a : z = 124
        · subst a; simp; omega
        · by_cases b : z = 46
          · subst b; simp; omega
          · simp [a, b]; omega
    have e : cnt 124 (y :: l) + cnt 46 (y :: l) = cnt 124 l + cnt 46 l + ((if y = 124 then 1 else 0) + if y = 46 then 1 else 0) := by
      unfold cnt; simp only [List.countP_cons, beq_iff_eq]; omega
    rw [e, List.length_cons] at h
    have hy : y = 124 ∨ y = 46 := by
      by_cases a : y = 124
      · exact .inl a
      · by_cases b : y = 46
        · exact .inr b
        · simp [a, b] at h; omega
    have hl : cnt 124 l + cnt 46 l = l.length := by
      rcases hy with rfl | rfl <;> simp at h <;> omega
    intro x hx
    rcases List.mem_cons.1 hx with rfl | hx
    · exact hy
    · exact cnt_two l hl x hx
theorem good_bars (l : List UInt8) (h5 : l.length = 5) (h2 : cnt 124 l = 2) (h3 : cnt 46 l = 3) : 0 ≤ barsD l := by
  have hall := cnt_two l (by omega)
  match l, h5 with
  | [a, b, c, d, e], _ =>
    have ha := hall a (by simp)
    have hb := hall b (by simp)
    have hc := hall c (by simp)
    have hd := hall d (by simp)
    have he := hall e (by simp)
    clear hall
    rcases ha with rfl | rfl <;> rcases hb with rfl | rfl <;> rcases hc with rfl | rfl <;> rcases hd with rfl | rfl <;> rcases he with rfl | rfl <;> first | decide | (exfalso; revert h2; decide)
theorem bars_good (l : List UInt8) (h : 0 ≤ barsD l) : l.length = 5 ∧ cnt 124 l = 2 ∧ cnt 46 l = 3 ∧ 0 ≤ barsD l.reverse := by
  rcases barsD_cases l with h1 | ⟨k, hk, _, rfl⟩
  · omega
  · exact ⟨barL_len k hk, (cnt_bar k hk).1, (cnt_bar k hk).2, rev_bar k hk⟩
theorem digitBar_back (s : ByteArray) (h : 0 ≤ barsD s.data.toList) : digitBarS (barsD s.data.toList) = s := by
  have h9 := (barsD_lo s.data.toList).2
  rw [digitBarS, if_pos ⟨h, h9⟩]
  have := barsD_eq _ h
  show bs (barL (barsD s.data.toList).toNat) = s
  rw [← this, bs_of]
theorem turn_turn (s : ByteArray) : turnS (turnS s) = s := by
  show bs (bs s.data.toList.reverse).data.toList.reverse = s
  rw [bs_list, List.reverse_reverse, bs_of]

/-- The bars of a code, group by group. -/
theorem flat_at : ∀ (l : List UInt8) (i : Nat) (_ : allDig l = true) (hi : i < l.length), ((l.flatMap barC).drop (5 * i)).take 5 = barC l[i]
  | c :: l, 0, h, _ => by
    simp only [allDig, List.all_cons, Bool.and_eq_true] at h
    rw [List.flatMap_cons]
    simp only [Nat.mul_zero, List.drop_zero, List.getElem_cons_zero]
    exact List.take_left' (barC_len c h.1)
  | c :: l, i + 1, h, hi => by
    simp only [allDig, List.all_cons, Bool.and_eq_true] at h
    rw [List.flatMap_cons, show 5 * (i + 1) = 5 + 5 * i by omega, ← List.drop_drop, List.drop_left' (barC_len c h.1), List.getElem_cons_succ]
    exact flat_at l i h.2 (by simpa using hi)
theorem codeB_list {s : ByteArray} (h : codeB s = true) : s.data.toList.length = 7 ∧ allDig s.data.toList = true := by
  obtain ⟨h1, h2⟩ := codeB_parts2 h
  exact ⟨by rw [Array.length_toList]; exact h1, h2⟩
theorem barC_digit (c : UInt8) (h : digB c = true) : barsD (barC c) = (c.toNat : Int) - 48 := by
  simp [digB] at h
  unfold barC; rw [barsD_barL _ (by omega)]; omega
theorem grp_code (s : ByteArray) (h : codeB s = true) (i : Nat) (hi : i < 7) : (grp (bs (barsL s)) i).data.toList = barC (s.data.toList[i]'(by rw [(codeB_list h).1]; exact hi)) := by
  obtain ⟨h7, hd⟩ := codeB_list h
  rw [grp_list, bs_list]
  unfold barsL
  rw [List.append_assoc, List.append_assoc, show 1 + 5 * i = 1 + (5 * i) from rfl, ← List.drop_drop]
  simp only [List.singleton_append, List.drop_succ_cons, List.drop_zero]
  have hF := flat_len _ hd
  rw [List.drop_append_of_le_length (by omega), List.take_append_of_le_length (by rw [List.length_drop]; omega)]
  exact flat_at _ i hd (by omega)
theorem grp_chk (s : ByteArray) (h : codeB s = true) : (grp (bs (barsL s)) 7).data.toList = barL (chkD s).toNat := by
  obtain ⟨h7, hd⟩ := codeB_list h
  obtain ⟨c0, c9⟩ := chk_range s (code_digs s h)
  rw [grp_list, bs_list]
  unfold barsL
  have hF := flat_len _ hd
  rw [List.append_assoc, List.drop_left' (by rw [List.length_append, hF, h7]; rfl), List.take_left' (barL_len _ (by omega))]
theorem digB_mem (l : List UInt8) (h : allDig l = true) (i : Nat) (hi : i < l.length) : digB l[i] = true := by
  simp only [allDig, List.all_eq_true] at h
  exact h _ (List.getElem_mem hi)
theorem gd_code (s : ByteArray) (h : codeB s = true) (i : Nat) (hi : i < 7) : gd (bs (barsL s)) i = ((s.data.toList[i]'(by rw [(codeB_list h).1]; exact hi)).toNat : Int) - 48 := by
  unfold gd; rw [grp_code s h i hi, barC_digit _ (digB_mem _ (codeB_list h).2 i _)]
theorem gd_chk (s : ByteArray) (h : codeB s = true) : gd (bs (barsL s)) 7 = chkD s := by
  obtain ⟨c0, c9⟩ := chk_range s (code_digs s h)
  unfold gd; rw [grp_chk s h, barsD_barL _ (by omega)]; omega
theorem gd_all (s : ByteArray) (h : codeB s = true) : ∀ i, i < 8 → 0 ≤ gd (bs (barsL s)) i := by
  intro i hi
  by_cases e : i = 7
  · subst e; rw [gd_chk s h]; exact (chk_range s (code_digs s h)).1
  · rw [gd_code s h i (by omega)]
    have := digB_mem _ (codeB_list h).2 i (by rw [(codeB_list h).1]; omega)
    simp only [digB, Bool.and_eq_true, decide_eq_true_eq] at this; omega
theorem dgB_sub' (c : UInt8) (h : digB c = true) : dgB ((c.toNat : Int) - 48) = c := by
  simp [digB] at h
  unfold dgB
  rw [show (48 + ((c.toNat : Int) - 48)).toNat = c.toNat by omega]
  exact UInt8.ofNat_toNat
theorem digL_code7 (s : ByteArray) (h : codeB s = true) : digL (bs (barsL s)) 7 = s.data.toList := by
  obtain ⟨h7, hd⟩ := codeB_list h
  apply List.ext_getElem (by rw [digL_len, h7])
  intro i h1 h2
  have hi : i < 7 := by rw [digL_len] at h1; exact h1
  have h0 := gd_all s h i (by omega)
  simp only [digL, List.getElem_map, List.getElem_range, pos, if_neg (show ¬ gd (bs (barsL s)) i < 0 by omega)]
  rw [gd_code s h i hi, dgB_sub' _ (digB_mem _ hd i _)]
theorem sum_code (s : ByteArray) (h : codeB s = true) : sumG (bs (barsL s)) 8 % 10 = 0 := by
  have h7 := digL_sum (bs (barsL s)) 7
  rw [digL_code7 s h] at h7
  have hc : chkD s = (10 - sumD s.data.toList % 10) % 10 := by unfold chkD; rw [if_pos (code_digs s h)]
  have hs : sumG (bs (barsL s)) 8 = sumG (bs (barsL s)) 7 + pos (gd (bs (barsL s)) 7) := rfl
  have hr := sumG_range (bs (barsL s)) 7
  rw [gd_chk s h] at hs
  obtain ⟨c0, c9⟩ := chk_range s (code_digs s h)
  rw [pos, if_neg (by omega)] at hs
  rw [hs, ← h7, hc]
  rw [← h7] at hr
  omega
theorem rec_code (s : ByteArray) (h : codeB s = true) : recO (bs (barsL s)) = some s.data.toList := by
  rw [recO_all _ (barsL_size s h) (gd_all s h), if_pos (sum_code s h), digL_code7 s h]
theorem read_code (s : ByteArray) (h : codeB s = true) : readO (bs (barsL s)) = some s.data.toList := by
  have h42 := barsL_size s h
  have he : bs (barsL (bs (digL (bs (barsL s)) 7))) = bs (barsL s) := by rw [digL_code7 s h, bs_of]
  rcases read_ways (bs (barsL s)) h42 (fun i hi => gd_all s h i (by omega)) with ⟨_, hr⟩ | ⟨hn, _⟩
  · rw [hr, digL_code7 s h]
  · exact absurd he hn

/-- Bars that are read are those of the code that is read. -/
theorem read_back (b : ByteArray) (l : List UInt8) (h : readO b = some l) : codeB (bs l) = true ∧ bs (barsL (bs l)) = b ∧ b.size = 42 ∧ b.data.toList[0]? = some 124 ∧ b.data.toList[41]? = some 124 ∧ (∀ i, i < 8 → 0 ≤ gd b i) := by
  have hh := h
  unfold readO at hh
  split at hh
  · rename_i hc
    obtain ⟨h42, h0, h1, hall⟩ := hc
    rcases read_ways b h42 (fun i hi => hall i (by omega)) with ⟨he, hr⟩ | ⟨_, hr⟩
    · rw [h] at hr
      injection hr with hr
      rw [hr]
      exact ⟨digL_code b, he, h42, h0, h1, hall⟩
    · rw [h] at hr; cases hr
  · cases hh
theorem put_at (b : ByteArray) (i j : Nat) (c : UInt8) : (putS b i c).data.toList[j]? = if i = j then (if i < b.size then some c else none) else b.data.toList[j]? := by
  rw [putS_list, List.getElem?_set]
  by_cases e : i = j
  · subst e
    by_cases h : i < b.size
    · simp [h]
    · simp [h]
  · simp [e]
theorem grp_at (b : ByteArray) (g j : Nat) (hj : j < 5) : (grp b g).data.toList[j]? = b.data.toList[1 + 5 * g + j]? := by
  rw [grp_list, List.getElem?_take, if_pos hj, List.getElem?_drop]
theorem grp_len (b : ByteArray) (g : Nat) : (grp b g).data.toList.length ≤ 5 := by rw [grp_list]; exact List.length_take_le _ _
theorem grp_len5 (b : ByteArray) (g : Nat) (h42 : b.size = 42) (hg : g < 8) : (grp b g).data.toList.length = 5 := by
  rw [grp_list, List.length_take, List.length_drop, Array.length_toList, show b.data.size = 42 from h42]; omega
/-- No code is read if one bar is changed. -/
theorem read_flip (b : ByteArray) (l : List UInt8) (h : readO b = some l) (i : Nat) (hi : i < b.size) : readO (putS b i (flipC b[i])) = none := by
  obtain ⟨_, _, h42, h0, h1, hall⟩ := read_back b l h
  have hb : ∀ j (hj : j < b.size), b.data.toList[j]? = some b[j] := fun j hj => by rw [List.getElem?_eq_getElem (by simpa using hj)]; rfl
  unfold readO
  rw [if_neg]
  rintro ⟨_, g0, g1, gall⟩
  by_cases e0 : i = 0
  · subst e0
    rw [put_at, if_pos rfl, if_pos hi] at g0
    rw [hb 0 hi] at h0
    injection h0 with h0
    injection g0 with g0
    rw [h0] at g0; revert g0; decide
  · by_cases e1 : i = 41
    · subst e1
      rw [put_at, if_pos rfl, if_pos hi] at g1
      rw [hb 41 hi] at h1
      injection h1 with h1
      injection g1 with g1
      rw [h1] at g1; revert g1; decide
    · obtain ⟨g, j, hg, hj, rfl⟩ : ∃ g j, g < 8 ∧ j < 5 ∧ i = 1 + 5 * g + j := ⟨(i - 1) / 5, (i - 1) % 5, by omega, by omega, by omega⟩
      have hgb := hall g hg
      have hgp := gall g hg
      have hbl := barsD_eq _ hgb
      have hd : (barsD (grp b g).data.toList).toNat < 10 := by have := (barsD_lo (grp b g).data.toList).2; have : 0 ≤ barsD (grp b g).data.toList := hgb; omega
      obtain ⟨d, hdd⟩ : ∃ d, d = (barsD (grp b g).data.toList).toNat := ⟨_, rfl⟩
      rw [← hdd] at hbl hd
      have hset : (grp (putS b (1 + 5 * g + j) (flipC b[1 + 5 * g + j])) g).data.toList = (barL d).set j (flipC ((barL d).getD j 0)) := by
        apply List.ext_getElem?
        intro m
        by_cases hm : m < 5
        · rw [grp_at _ _ _ hm, put_at, List.getElem?_set, ← hbl, grp_at b g m hm]
          have hjv : (grp b g).data.toList.getD j 0 = b[1 + 5 * g + j] := by
            rw [List.getD_eq_getElem?_getD, grp_at b g j hj, hb _ hi]; rfl
          rw [hjv, grp_len5 b g h42 hg]
          by_cases em : j = m
          · subst em; simp [hi, hj]
          · rw [if_neg (by omega), if_neg em]
        · rw [List.getElem?_eq_none (by have := grp_len (putS b (1 + 5 * g + j) (flipC b[1 + 5 * g + j])) g; omega), List.getElem?_eq_none (by rw [List.length_set, barL_len d hd]; omega)]
      unfold gd at hgp
      rw [hset, flip_bar d hd j hj] at hgp
      omega

/-- One digit that is not read is recovered. -/
theorem sumG_one (x b : ByteArray) (k : Nat) (hj : ∀ j, j < 8 → j ≠ k → gd x j = gd b j) (hk : gd x k < 0) : ∀ n, n ≤ 8 → sumG x n = sumG b n - if k < n then pos (gd b k) else 0
  | 0, _ => by simp [sumG]
  | n + 1, hn => by
    have ih := sumG_one x b k hj hk n (by omega)
    simp only [sumG]
    rw [ih]
    by_cases e : n = k
    · subst e
      have : pos (gd x n) = 0 := by unfold pos; rw [if_pos hk]
      rw [this, if_neg (by omega), if_pos (by omega)]; omega
    · rw [hj n (by omega) e]
      by_cases h1 : k < n
      · rw [if_pos h1, if_pos (by omega)]; omega
      · rw [if_neg h1, if_neg (by omega)]; omega
theorem lostG_one (x : ByteArray) (k : Nat) (hj : ∀ j, j < 8 → j ≠ k → 0 ≤ gd x j) (hk : gd x k < 0) : ∀ n, n ≤ 8 → lostG x n = some (if k < n then (k : Int) else -1)
  | 0, _ => by simp [lostG]
  | n + 1, hn => by
    have ih := lostG_one x k hj hk n (by omega)
    simp only [lostG, ih]
    by_cases e : n = k
    · subst e
      simp [hk]
    · rw [if_neg (by have := hj n (by omega) e; omega)]
      by_cases h1 : k < n
      · rw [if_pos h1, if_pos (by omega)]
      · rw [if_neg h1, if_neg (by omega)]
theorem rec_one (x b : ByteArray) (k : Nat) (hk8 : k < 8) (hx : x.size = 42) (hj : ∀ j, j < 8 → j ≠ k → gd x j = gd b j) (hk : gd x k < 0) (hall : ∀ j, j < 8 → 0 ≤ gd b j) (hs : sumG b 8 % 10 = 0) : recO x = some (digL b 7) := by
  have hl := lostG_one x k (fun j h1 h2 => by rw [hj j h1 h2]; exact hall j h1) hk 8 (Nat.le_refl _)
  rw [if_pos hk8] at hl
  have hsum := sumG_one x b k hj hk 8 (Nat.le_refl _)
  rw [if_pos hk8] at hsum
  have hpk := pos_range b k
  have hpk2 : pos (gd b k) = gd b k := by unfold pos; rw [if_neg (by have := hall k hk8; omega)]
  have hfill : fillD x = pos (gd b k) := by unfold fillD; rw [hsum]; omega
  unfold recO
  rw [if_pos hx, hl]
  simp only [Int.natCast_nonneg, if_true, Int.toNat_natCast]
  rw [hfill, show (digL x 8).set k (dgB (pos (gd b k))) = digL b 8 from ?_, digL_take]
  apply List.ext_getElem (by rw [List.length_set, digL_len, digL_len])
  intro i h1 h2
  have hi : i < 8 := by rw [digL_len] at h2; exact h2
  by_cases e : k = i
  · subst e; rw [List.getElem_set_self]; simp [digL]
  · rw [List.getElem_set_ne e]; simp [digL, hj i hi (Ne.symm e)]
theorem gd_same (x b : ByteArray) (g : Nat) (h : ∀ j, j < 5 → x.data.toList[1 + 5 * g + j]? = b.data.toList[1 + 5 * g + j]?) : gd x g = gd b g := by
  unfold gd
  rw [show (grp x g).data.toList = (grp b g).data.toList from ?_]
  apply List.ext_getElem?
  intro m
  by_cases hm : m < 5
  · rw [grp_at _ _ _ hm, grp_at _ _ _ hm, h m hm]
  · rw [List.getElem?_eq_none (by have := grp_len x g; omega), List.getElem?_eq_none (by have := grp_len b g; omega)]
theorem gd_bad (x : ByteArray) (g : Nat) (h : x.data.toList[1 + 5 * g]? = some 63) : gd x g < 0 := by
  have hb := gd_lo x g
  by_cases h0 : 0 ≤ gd x g
  · exfalso
    have hl := barsD_eq _ h0
    have h1 := grp_at x g 0 (by omega)
    rw [Nat.add_zero, h] at h1
    rw [hl] at h1
    have hd : (barsD (grp x g).data.toList).toNat < 10 := by have := (barsD_lo (grp x g).data.toList).2; have : 0 ≤ barsD (grp x g).data.toList := h0; omega
    revert h1
    generalize (barsD (grp x g).data.toList).toNat = d at hd
    match d, hd with
    | 0, _ | 1, _ | 2, _ | 3, _ | 4, _ | 5, _ | 6, _ | 7, _ | 8, _ | 9, _ => decide
  · omega

/-- How many of the first digits are not read. -/
def negs (b : ByteArray) : Nat → Nat
  | 0 => 0
  | k + 1 => negs b k + if gd b k < 0 then 1 else 0
theorem negs_le (b : ByteArray) : ∀ k, negs b k ≤ k
  | 0 => Nat.le_refl _
  | k + 1 => by have := negs_le b k; simp only [negs]; split <;> omega
theorem negs_lost (b : ByteArray) : ∀ (k : Nat) (u : Int), lostG b k = some u → negs b k = if 0 ≤ u then 1 else 0
  | 0, u, h => by simp [lostG] at h; subst h; simp [negs]
  | k + 1, u, h => by
    simp only [lostG] at h
    split at h
    · cases h
    · rename_i v hv
      have ih := negs_lost b k v hv
      simp only [negs]
      split at h
      · rename_i hneg
        split at h
        · cases h
        · rename_i hv0
          injection h with h; subst h
          rw [ih, if_neg hv0, if_pos hneg, if_pos (by omega)]
      · rename_i hpos
        injection h with h; subst h
        rw [ih, if_neg hpos, Nat.add_zero]
/-- A recovered code: its bars agree with the given ones in each digit that can be read. -/
theorem rec_true (b : ByteArray) (l : List UInt8) (h : recO b = some l) : b.size = 42 ∧ codeB (bs l) = true ∧ negs b 8 ≤ 1 ∧ (∀ k, k < 8 → 0 ≤ gd b k → grp (bs (barsL (bs l))) k = grp b k) := by
  unfold recO at h
  split at h
  · rename_i h42
    split at h
    · cases h
    · rename_i u hu
      obtain ⟨h1, h2, h3, h4⟩ := lostG_spec b 8 u hu
      have hn := negs_lost b 8 u hu
      obtain ⟨f0, f9⟩ := fillD_range b
      -- the eight digits, complete
      obtain ⟨E, hE, hEl, hEd, hEs, hEg⟩ : ∃ E : List UInt8, l = E.take 7 ∧ E.length = 8 ∧ allDig E = true ∧ sumD E % 10 = 0 ∧ (∀ k, k < 8 → 0 ≤ gd b k → E[k]? = some (dgB (gd b k))) := by
        split at h
        · rename_i hu0
          injection h with h
          obtain ⟨n, rfl⟩ := Int.eq_ofNat_of_zero_le hu0
          have hn8 : n < 8 := by omega
          have hneg := h4 hu0
          refine ⟨(digL b 8).set n (dgB (fillD b)), h.symm, by rw [List.length_set, digL_len], allDig_set' _ _ _ (digL_dig b 8) (digB_dgB _ f0 f9), ?_, fun k hk h0 => ?_⟩
          · have hv := fill_valid b n hn8 hneg
            simp only [chkB, Bool.and_eq_true, decide_eq_true_eq, bs_list] at hv
            exact hv.2
          · rw [List.getElem?_set_ne (by intro e; subst e; have : gd b n < 0 := hneg; omega)]
            rw [List.getElem?_eq_getElem (by rw [digL_len]; exact hk)]
            simp [digL, pos, show ¬ gd b k < 0 by omega]
        · rename_i hu0
          split at h
          · rename_i hs
            injection h with h
            refine ⟨digL b 8, h.symm, digL_len b 8, digL_dig b 8, by rw [digL_sum]; exact hs, fun k hk h0 => ?_⟩
            rw [List.getElem?_eq_getElem (by rw [digL_len]; exact hk)]
            simp [digL, pos, show ¬ gd b k < 0 by omega]
          · cases h
      have hll : l.length = 7 := by rw [hE, List.length_take, hEl]; rfl
      have hld : allDig l = true := by rw [hE]; exact allDig_take _ _ hEd
      have hcb : codeB (bs l) = true := by simp [codeB, bs_size, bs_list, hll, hld]
      refine ⟨h42, hcb, by rw [hn]; split <;> omega, fun k hk h0 => ?_⟩
      have key : gd (bs (barsL (bs l))) k = gd b k := by
        have hek := hEg k hk h0
        have h9 := (gd_lo b k).2
        by_cases e : k = 7
        · subst e
          rw [gd_chk _ hcb]
          have hE7 : E = l ++ [dgB (gd b 7)] := by
            rw [hE]
            have := List.take_append_drop 7 E
            rw [List.drop_eq_getElem_cons (show 7 < E.length by omega), List.drop_eq_nil_of_le (by omega)] at this
            rw [List.getElem?_eq_getElem (by omega)] at hek
            injection hek with hek
            rw [hek] at this
            exact this.symm
          rw [hE7, sumD_snoc, dgB_val _ h0 h9] at hEs
          have hsr := sumD_bd l hld
          unfold chkD; rw [if_pos (code_digs _ hcb), bs_list]; omega
        · rw [gd_code _ hcb k (by omega)]
          have hl : l[k]? = some (dgB (gd b k)) := by
            rw [hE, List.getElem?_take, if_pos (by omega)]; exact hek
          have hl2 : (bs l).data.toList[k]'(by rw [bs_list, hll]; omega) = dgB (gd b k) := by
            have := List.getElem?_eq_getElem (l := l) (i := k) (by omega)
            rw [this] at hl
            injection hl with hl
          rw [hl2, dgB_val _ h0 h9]; omega
      have e1 := barsD_eq _ h0
      have h0' : 0 ≤ gd (bs (barsL (bs l))) k := by rw [key]; exact h0
      have e2 := barsD_eq (grp (bs (barsL (bs l))) k).data.toList h0'
      have key2 : barsD (grp (bs (barsL (bs l))) k).data.toList = barsD (grp b k).data.toList := key
      rw [key2, ← e1] at e2
      rw [← bs_of (grp (bs (barsL (bs l))) k), e2, bs_of]
  · cases h

end Go.Proofs.YtcopkapcgabkmaaDoor
