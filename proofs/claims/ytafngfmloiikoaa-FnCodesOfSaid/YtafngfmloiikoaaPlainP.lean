/-
  PLAIN FACTS on prefixes of codes and how many letters have them. No program in sight. By an AI agent.
-/
import Derived.Test.YtafngfmloiikoaaByte
import Derived.Test.YtafngfmloiikoaaMark
import Derived.Test.YtafngfmloiikoaaVary
import Derived.Lib.Strings
namespace Go.Proofs.Ytafngfmloiikoaa

theorem begins_list (c p : ByteArray) : beginsB c p = true ↔ c.data.toList.take p.data.toList.length = p.data.toList := by
  unfold beginsB
  rw [Lib.extract_toList, Lib.toList_data]
  simp only [Bool.and_eq_true, decide_eq_true_eq, beq_iff_eq, List.drop_zero, Nat.sub_zero]
  rw [← Lib.size_eq]
  constructor
  · exact fun h => h.2
  · intro h
    refine ⟨?_, h⟩
    have := congrArg List.length h
    rw [List.length_take, ← Lib.size_eq, ← Lib.size_eq] at this
    omega
theorem begins_more (c p : ByteArray) (b : UInt8) (h : p.size < c.size) : beginsB c (p ++ bs [b]) = (beginsB c p && (dig c p.size == b.toNat)) := by
  have hl : (p ++ bs [b]).data.toList = p.data.toList ++ [b] := by
    have : (p ++ bs [b]).data = p.data ++ (bs [b]).data := by simp
    rw [this, Array.toList_append]; rfl
  have hp : p.data.toList.length < c.data.toList.length := by rw [← Lib.size_eq, ← Lib.size_eq]; exact h
  have hd : dig c p.size = (c.data.toList[p.data.toList.length]'hp).toNat := by
    rw [← dig_eq c p.size h]
    congr 1
  rw [Bool.eq_iff_iff, Bool.and_eq_true, begins_list, begins_list, hl, List.length_append, List.length_singleton, List.take_succ_eq_append_getElem hp]
  constructor
  · intro e
    have := List.append_inj e (by rw [List.length_take]; omega)
    refine ⟨this.1, ?_⟩
    rw [hd]
    have h2 := this.2
    simp only [List.cons.injEq, and_true] at h2
    rw [h2]; simp
  · rintro ⟨e1, e2⟩
    rw [e1]
    rw [hd] at e2
    simp only [beq_iff_eq] at e2
    rw [UInt8.toNat_inj.1 e2]
theorem begins_none (c : ByteArray) : beginsB c ⟨#[]⟩ = true := by rw [begins_list]; rfl
/-- How many letters begin with a prefix and go on with one of the first k digits. -/
def cntD (ls : List Ltr) (p : ByteArray) (k : Nat) : Nat := ls.countP fun l => beginsB l.2 p && decide (dig l.2 p.size < 48 + k)
theorem dgB_nat (k : Nat) (hk : k < 10) : (dgB (k : Int)).toNat = 48 + k := by
  have := dgB_val (k : Int) (by omega) (by omega)
  omega
theorem withP_len (ls : List Ltr) (p : ByteArray) : (withP ls p).length = ls.countP fun l => beginsB l.2 p := by
  unfold withP; rw [List.countP_eq_length_filter]
theorem cntD_succ (p : ByteArray) (k : Nat) (hk : k < 10) (hp : p.size < 7) : ∀ ls : List Ltr, (∀ l ∈ ls, l.2.size = 7) → cntD ls p (k + 1) = cntD ls p k + (withP ls (p ++ bs [dgB (k : Int)])).length
  | [], _ => rfl
  | l :: ls, h => by
    have ih := cntD_succ p k hk hp ls (fun m hm => h m (List.mem_cons_of_mem _ hm))
    have hl := begins_more l.2 p (dgB (k : Int)) (by rw [h l (by simp)]; exact hp)
    rw [dgB_nat k hk] at hl
    rw [withP_len] at ih ⊢
    unfold cntD at ih ⊢
    rw [List.countP_cons, List.countP_cons, List.countP_cons, ih, hl]
    cases beginsB l.2 p with
    | false => simp
    | true =>
      simp only [Bool.true_and, decide_eq_true_eq, beq_iff_eq]
      by_cases h1 : dig l.2 p.size = 48 + k
      · rw [if_pos (by omega), if_neg (by omega), if_pos h1]; omega
      · by_cases h2 : dig l.2 p.size < 48 + k
        · rw [if_pos (by omega), if_pos h2, if_neg h1]; omega
        · rw [if_neg (by omega), if_neg h2, if_neg h1]; omega
theorem cntD_zero (ls : List Ltr) (p : ByteArray) (h : ∀ l ∈ ls, 48 ≤ dig l.2 p.size) : cntD ls p 0 = 0 := by
  unfold cntD; rw [List.countP_eq_zero]; intro l hl; have := h l hl; simp; omega
theorem cntD_ten (ls : List Ltr) (p : ByteArray) (h : ∀ l ∈ ls, dig l.2 p.size < 58) : cntD ls p 10 = (withP ls p).length := by
  rw [withP_len]; unfold cntD
  apply List.countP_congr
  intro l hl
  have := h l hl
  simp; omega
theorem cntD_le (ls : List Ltr) (p : ByteArray) (k : Nat) : cntD ls p k ≤ ls.length := List.countP_le_length
theorem prefB_more (p : ByteArray) (k : Nat) (hk : k < 10) (h : prefB p = true) (h7 : p.size < 7) : prefB (p ++ bs [dgB (k : Int)]) = true := by
  simp only [prefB, Bool.and_eq_true, decide_eq_true_eq] at h ⊢
  have hl : (p ++ bs [dgB (k : Int)]).data.toList = p.data.toList ++ [dgB (k : Int)] := by
    have : (p ++ bs [dgB (k : Int)]).data = p.data ++ (bs [dgB (k : Int)]).data := by simp
    rw [this, Array.toList_append]; rfl
  refine ⟨?_, ?_⟩
  · rw [Lib.size_eq, hl, List.length_append, ← Lib.size_eq]; simp; omega
  · rw [hl, allDig_snoc, h.2, digB_dgB _ (by omega) (by omega)]; rfl
theorem withP_none (ls : List Ltr) : withP ls ⟨#[]⟩ = ls := by
  unfold withP; rw [List.filter_eq_self]; exact fun l _ => begins_none l.2
theorem cntV_none (ls : List Ltr) (h : batchB ls = true) : cntV ls ⟨#[]⟩ = ls.length := by
  have : splitOk ls ⟨#[]⟩ = true := by unfold splitOk; rw [h]; rfl
  unfold cntV; rw [if_pos this, withP_none]
theorem batch_dig2 {ls : List Ltr} (h : batchB ls = true) {l : Ltr} (hl : l ∈ ls) (d : Nat) (hd : d < 7) : 48 ≤ dig l.2 d ∧ dig l.2 d < 58 := by
  have hc := ((batchB_true ls).1 h).2.1 l hl
  simp only [okL, codeB, Bool.and_eq_true, decide_eq_true_eq] at hc
  obtain ⟨_, hs, ha⟩ := hc
  have hd' : d < l.2.size := by omega
  have hm : l.2[d] ∈ l.2.data.toList := by
    rw [show l.2[d] = l.2.data.toList[d]'(by simpa using hd') from by simp [ByteArray.getElem_eq_getElem_data]]
    exact List.getElem_mem _
  simp only [allDig, List.all_eq_true] at ha
  have := ha _ hm
  simp [digB] at this
  rw [← dig_eq l.2 d hd']
  omega
theorem app_size (a b : ByteArray) : (a ++ b).size = a.size + b.size := by simp

end Go.Proofs.Ytafngfmloiikoaa
