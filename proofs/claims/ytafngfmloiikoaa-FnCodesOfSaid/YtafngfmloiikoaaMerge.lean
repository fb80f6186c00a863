/-
  MergeBatches: plain facts, and the program's walk. By an AI agent.
-/
import Derived.Test.YtafngfmloiikoaaRng
import Derived.Test.YtafngfmloiikoaaInv
namespace Go.Proofs.Ytafngfmloiikoaa
open Go.RowKit

def leB (a b : ByteArray) : Bool := Op.bytesLess a.toList b.toList || a.toList == b.toList
/-- Two lists merged: of equal codes the first list's come first. -/
def mergeL : List Ltr → List Ltr → List Ltr
  | [], ys => ys
  | a :: xs, [] => a :: xs
  | a :: xs, b :: ys => if leB a.2 b.2 = true then a :: mergeL xs (b :: ys) else b :: mergeL (a :: xs) ys
termination_by a b => a.length + b.length
theorem mergeL_nil (xs : List Ltr) : mergeL xs [] = xs := by cases xs <;> simp [mergeL]
theorem mergeL_left (a : Ltr) (xs : List Ltr) (b : Ltr) (ys : List Ltr) (h : leB a.2 b.2 = true) : mergeL (a :: xs) (b :: ys) = a :: mergeL xs (b :: ys) := by rw [mergeL, if_pos h]
theorem mergeL_right (a : Ltr) (xs : List Ltr) (b : Ltr) (ys : List Ltr) (h : leB a.2 b.2 = false) : mergeL (a :: xs) (b :: ys) = b :: mergeL (a :: xs) ys := by rw [mergeL, if_neg (by rw [h]; decide)]
theorem mergeL_perm : ∀ xs ys : List Ltr, List.Perm (mergeL xs ys) (xs ++ ys)
  | [], ys => by rw [mergeL]; exact List.Perm.refl _
  | a :: xs, [] => by rw [mergeL]; simp
  | a :: xs, b :: ys => by
    rw [mergeL]; split
    · exact List.Perm.cons a (mergeL_perm xs (b :: ys))
    · have h := mergeL_perm (a :: xs) ys
      exact (List.Perm.cons b h).trans (List.perm_middle.symm)
termination_by a b => a.length + b.length
theorem batchB_perm {xs ys : List Ltr} (h : List.Perm xs ys) : batchB xs = batchB ys := by
  have key : ∀ {xs ys : List Ltr}, List.Perm xs ys → batchB xs = true → batchB ys = true := by
    intro xs ys h hb
    rw [batchB_true] at hb ⊢
    refine ⟨by rw [← h.length_eq]; exact hb.1, fun l hl => hb.2.1 l (h.mem_iff.2 hl), (h.map Prod.fst).nodup_iff.1 hb.2.2⟩
  rw [Bool.eq_iff_iff]; exact ⟨key h, key h.symm⟩
def mergeOk (xs ys : List Ltr) : Bool := sortedB xs && sortedB ys && batchB (xs ++ ys)
/-- The merged letters. -/
def mergeR (xs ys : List Ltr) : List Ltr := if mergeOk xs ys = true then mergeL xs ys else []
/-- What a function that returns letters and a bool answers. -/
def Gives (ls : List Ltr) (ok : Bool) (w : World) (e : Ending) (w' : World) : Prop :=
  ∃ v, e = .returned (.tuple #[v, .bool ok]) ∧ Own w' w.heap.size v ls ∧ Below w.heap.size w w'
theorem sorted_batch {ls : List Ltr} (h : sortedB ls = true) : batchB ls = true := by simp only [sortedB, Bool.and_eq_true] at h; exact h.1
/-- What an append of a letter to a slice of the call's own leaves. -/
theorem Own.app {w w' : World} {B : Nat} {v v' : Value} {ls : List Ltr} {x : Ltr} (h : Own w B v ls) (hx : x.2.size ≤ maxLen)
    (ho : w'.ownsRow B 31 2 v' (ls.length + 1) (cellsL ls ++ [.int .i64 x.1, .string x.2])) : Own w' B v' (ls ++ [x]) := by
  refine ⟨by rw [cellsL_append, List.length_append]; exact ho, fun l hm => ?_⟩
  rcases List.mem_append.1 hm with h1 | h1
  · exact h.2 l h1
  · simp at h1; subst h1; exact hx
theorem make_cap (n m : Nat) (hn : n + m ≤ 1048576) (w : World) : ∃ cs : Array Value, cs.size = (n + m) * 2 ∧
    (Instr.makeSlice 23 (.int .i64 0) (.int .i64 ((n : Int) + (m : Int)))).run Try.prog w = .ok (.slice (some ⟨w.heap.size, 0, none⟩) 0 (n + m)) (w.alloc (.cells cs 31)) := by
  obtain ⟨i0, hi, hz0, hz1, hz2⟩ := info_parts info_letter
  refine ⟨_, ?_, run_make_rowN' 23 31 i0 _ Try.underlying23 hi hz0 .i64 .i64 0 (n + m) (Nat.zero_le _) (by rw [hz2]; omega) (by omega) w⟩
  rw [hz1]; exact size_madeCells _ _

/-- A step of a loop that appends a letter. -/
theorem own_step {W wr w4 : World} {nq : Nat} {v v' : Value} {M : List Ltr} {x : Ltr} {o : Obj} (hbel : Below W.heap.size W wr) (ho : Own wr W.heap.size v M) (hx : x.2.size ≤ maxLen)
    (hown' : w4.ownsRow W.heap.size 31 2 v' (M.length + 1) (cellsL M ++ [.int .i64 x.1, .string x.2])) (hgrow : ((wr.drewN nq).alloc o).grownBy w4 v.ownBlock) :
    Own w4 W.heap.size v' (M ++ [x]) ∧ Below W.heap.size W w4 := by
  have hb1 : Below W.heap.size W ((wr.drewN nq).alloc o) := ext_alloc (below_drewN' hbel nq) o
  have ho1 : Own ((wr.drewN nq).alloc o) W.heap.size v M := Own.ext (w := wr.drewN nq) ho (below_box _ _)
  exact ⟨ho1.app hx hown', below_app hb1 ho1 hb1.size hgrow⟩
theorem own_step0 {W wr w4 : World} {v v' : Value} {M : List Ltr} {x : Ltr} {o : Obj} (hbel : Below W.heap.size W wr) (ho : Own wr W.heap.size v M) (hx : x.2.size ≤ maxLen)
    (hown' : w4.ownsRow W.heap.size 31 2 v' (M.length + 1) (cellsL M ++ [.int .i64 x.1, .string x.2])) (hgrow : (wr.alloc o).grownBy w4 v.ownBlock) :
    Own w4 W.heap.size v' (M ++ [x]) ∧ Below W.heap.size W w4 := by
  have hb1 : Below W.heap.size W (wr.alloc o) := ext_alloc hbel o
  have ho1 : Own (wr.alloc o) W.heap.size v M := ho.ext (below_box _ _)
  exact ⟨ho1.app hx hown', below_app hb1 ho1 hb1.size hgrow⟩

set_option maxHeartbeats 8000000 in
theorem impl_MergeBatches (A : Option Addr) (n cap : Nat) (xs : List Ltr) (A2 : Option Addr) (m cap2 : Nat) (ys : List Ltr) (w : World) (h : LS w A n cap xs) (h2 : LS w A2 m cap2 ys) :
    Calls Try.prog 47 #[.slice A n cap, .slice A2 m cap2] w (Gives (mergeR xs ys) (mergeOk xs ys) w) := by
  have HL := Lib.hid h
  have HL2 := Lib.hid h2
  have HN := Lib.hid h.1
  have HM := Lib.hid h2.1
  clear h h2
  obtain ⟨i0, hi, hz0, hz1, hz2⟩ := info_parts info_letter
  cases hsa : sortedB xs with
  | false =>
    have H := Lib.hid (show mergeOk xs ys = false from by simp [mergeOk, hsa])
    have HSA := Lib.hid hsa
    clear hsa
    go_enter Try.func47, Try.ntmps47
    go_wp2_with (go_at_call 31; refine (impl_SortedBatch _ _ _ _ _ HL.out).mono ?_; rintro e w1 ⟨rfl, hb1⟩; rw [HSA.out])
    go_ret2
    exact ⟨_, ret_val (by rw [H.out]; rfl), by simp only [mergeR, H.out]; exact Own.nil _ _, (by repeat (first | exact Below.refl _ _ | assumption | refine ext_alloc ?_ _ | refine Below.drew ?_ | refine below_drewN' ?_ _ | refine ext_set ?_ (by first | (simp; done) | (simp; omega) | omega) _ | refine ext_trans ?_ (by assumption)))⟩
  | true =>
    cases hsb : sortedB ys with
    | false =>
      have H := Lib.hid (show mergeOk xs ys = false from by simp [mergeOk, hsb])
      have HSA := Lib.hid hsa
      have HSB := Lib.hid hsb
      clear hsa hsb
      go_enter Try.func47, Try.ntmps47
      go_wp2_with fail
      refine (impl_SortedBatch _ _ _ _ _ HL.out).mono ?_
      rintro e w1 ⟨rfl, hb1⟩
      rw [HSA.out]
      go_wp2_with fail
      refine (impl_SortedBatch _ _ _ _ _ (HL2.out.ext hb1)).mono ?_
      rintro e w2 ⟨rfl, hb2⟩
      rw [HSB.out]
      go_wp2_with fail
      go_ret2
      exact ⟨_, ret_val (by rw [H.out]; rfl), by simp only [mergeR, H.out]; exact Own.nil _ _, (by repeat (first | exact Below.refl _ _ | assumption | refine ext_alloc ?_ _ | refine Below.drew ?_ | refine below_drewN' ?_ _ | refine ext_set ?_ (by first | (simp; done) | (simp; omega) | omega) _ | refine ext_trans ?_ (by assumption)))⟩
    | true =>
      have hn60 := batch_len (sorted_batch hsa)
      have hm60 := batch_len (sorted_batch hsb)
      rw [HN.out] at hn60
      rw [HM.out] at hm60
      have H := Lib.hid (show mergeOk xs ys = batchB (mergeL xs ys) from by rw [batchB_perm (mergeL_perm xs ys)]; simp [mergeOk, hsa, hsb])
      have HSA := Lib.hid hsa
      have HSB := Lib.hid hsb
      have HPL := Lib.hid (show (mergeL xs ys).length = n + m from by rw [(mergeL_perm xs ys).length_eq, List.length_append, HN.out, HM.out])
      clear hsa hsb
      go_enter Try.func47, Try.ntmps47
      go_wp2_with fail
      refine (impl_SortedBatch _ _ _ _ _ HL.out).mono ?_
      rintro e w1 ⟨rfl, hb1⟩
      rw [HSA.out]
      go_wp2_with fail
      refine (impl_SortedBatch _ _ _ _ _ (HL2.out.ext hb1)).mono ?_
      rintro e w2 ⟨rfl, hb2⟩
      rw [HSB.out]
      obtain ⟨cs, hcs, hmk⟩ := make_cap n m (by omega) w2
      have hbw : Below w.heap.size w w2 := (by repeat (first | exact Below.refl _ _ | assumption | refine ext_alloc ?_ _ | refine Below.drew ?_ | refine below_drewN' ?_ _ | refine ext_set ?_ (by first | (simp; done) | (simp; omega) | omega) _ | refine ext_trans ?_ (by assumption)))
      have hbs := hbw.size
      have HO0 := Lib.hid (show Own (w2.alloc (.cells cs 31)) w.heap.size (.slice (some ⟨w2.heap.size, 0, none⟩) 0 (n + m)) [] from
        ⟨World.ownsRow_made w2 cs (n + m) hbs (by unfold maxLen; omega) hcs, fun l hl => by cases hl⟩)
      clear hcs
      go_wp2_with fail
      clear hmk
      go_loopw [6, 7, 8] (fun v iv jv wr => ∃ (i j : Nat) (M : List Ltr), i ≤ n ∧ j ≤ m ∧ iv = .int .i64 i ∧ jv = .int .i64 j ∧ M ++ mergeL (xs.drop i) (ys.drop j) = mergeL xs ys ∧ M.length = i + j ∧ Own wr w.heap.size v M ∧ Below w.heap.size w wr) (fun _ iv jv _ => n + m - (intOf iv).toNat - (intOf jv).toNat)
      case atStart => exact ⟨0, 0, [], by omega, by omega, rfl, rfl, rfl, rfl, HO0.out, (by repeat (first | exact Below.refl _ _ | assumption | refine ext_alloc ?_ _ | refine Below.drew ?_ | refine below_drewN' ?_ _ | refine ext_set ?_ (by first | (simp; done) | (simp; omega) | omega) _ | refine ext_trans ?_ (by assumption)))⟩
      case round =>
        obtain ⟨i, j, M, hi0, hj0, rfl, rfl, hM, hML, hown, hbel⟩ := hrel
        have HMM := Lib.hid hM
        have HLN := Lib.hid hML
        have HO := Lib.hid hown
        have hsize := hbel.size
        clear hM hML hown HO0
        by_cases hjm : j < m
        · obtain ⟨g2, off2, y, rfl, hy, hym, d0, d1⟩ := (HL2.out.ext hbel).at_ j hjm
          have HY := Lib.hid (drop_at ys j y hy)
          have hjd : ((j : Int) == (m : Int)) = false := by simp; omega
          have hjd2 : decide ((j : Int) < (m : Int)) = true := by simp; omega
          have hj2 : (j : Int) < (m : Int) := by omega
          clear hy
          by_cases hin : i < n
          · obtain ⟨g, off, x, rfl, hx, hxm, c0, c1⟩ := (HL.out.ext hbel).at_ i hin
            have HX := Lib.hid (drop_at xs i x hx)
            have hid' : decide ((i : Int) < (n : Int)) = true := by simp; omega
            have hi2 : (i : Int) < (n : Int) := by omega
            clear hx
            cases hle : leB x.2 y.2 with
            | true =>
              have hle2 : (Op.bytesLess x.2.toList y.2.toList || x.2.toList == y.2.toList) = true := hle
              have HS := Lib.hid (show (M ++ [x]) ++ mergeL (xs.drop (i + 1)) (ys.drop j) = mergeL xs ys from by
                rw [← HMM.out, HX.out, HY.out, mergeL_left _ _ _ _ hle]; simp)
              clear hle
              go_wp2_with fail
              go_quiet (fail)
              go_wp2_with (at_builtin; refine wpList_append_own_at _ rfl _ _ 23 rfl w.heap.size 31 i0 _ 2 24 Try.underlying23 hi hz0 hz1 hz2 rfl (by decide) _ _ _ rfl (by exact (HO.out.1.alloc _)) ⟨wr.heap.size, 0, none⟩ 1 1 [.int .i64 x.1, .string x.2] rfl rfl (by exact (letter_at _ x _ _ (by simp))) (letter_one x) (by have := HLN.out; unfold maxLen; omega) (by have := HLN.out; omega) (by simp; omega) ?_; intro v' w4 hown' hgrow _ hloc; clear hloc; have HST := Lib.hid (own_step hbel HO.out hxm hown' hgrow); clear hown' hgrow)
              go_roundw
              case rel => exact ⟨i + 1, j, M ++ [x], by omega, by omega, by go_num, by go_num, HS.out, by rw [List.length_append, HLN.out]; simp; omega, HST.out.1, HST.out.2⟩
              case measure => simp [intOf]; omega
            | false =>
              have hle2 : (Op.bytesLess x.2.toList y.2.toList || x.2.toList == y.2.toList) = false := hle
              have hle3 : Op.bytesLess x.2.toList y.2.toList = false := by simp at hle2; exact hle2.1
              have hle4 : (x.2.toList == y.2.toList) = false := by rw [hle3] at hle2; simpa using hle2
              have HS := Lib.hid (show (M ++ [y]) ++ mergeL (xs.drop i) (ys.drop (j + 1)) = mergeL xs ys from by
                rw [← HMM.out, HX.out, HY.out, mergeL_right _ _ _ _ hle]; simp)
              clear hle hle2
              go_wp2_with fail
              go_quiet (fail)
              go_wp2_with (at_builtin; refine wpList_append_own_at _ rfl _ _ 23 rfl w.heap.size 31 i0 _ 2 24 Try.underlying23 hi hz0 hz1 hz2 rfl (by decide) _ _ _ rfl (by exact (HO.out.1.alloc _)) ⟨wr.heap.size, 0, none⟩ 1 1 [.int .i64 y.1, .string y.2] rfl rfl (by exact (letter_at _ y _ _ (by simp))) (letter_one y) (by have := HLN.out; unfold maxLen; omega) (by have := HLN.out; omega) (by simp; omega) ?_; intro v' w4 hown' hgrow _ hloc; clear hloc; have HST := Lib.hid (own_step hbel HO.out hym hown' hgrow); clear hown' hgrow)
              go_roundw
              case rel => exact ⟨i, j + 1, M ++ [y], by omega, by omega, by go_num, by go_num, HS.out, by rw [List.length_append, HLN.out]; simp; omega, HST.out.1, HST.out.2⟩
              case measure => simp [intOf]; omega
          · have hid' : decide ((i : Int) < (n : Int)) = false := by simp; omega
            have hd : xs.drop i = [] := List.drop_eq_nil_of_le (by rw [HN.out]; omega)
            have HS := Lib.hid (show (M ++ [y]) ++ mergeL (xs.drop i) (ys.drop (j + 1)) = mergeL xs ys from by
              rw [← HMM.out, HY.out, hd]; simp [mergeL])
            clear hd
            go_wp2_with fail
            go_quiet (fail)
            go_wp2_with (at_builtin; refine wpList_append_own_at _ rfl _ _ 23 rfl w.heap.size 31 i0 _ 2 24 Try.underlying23 hi hz0 hz1 hz2 rfl (by decide) _ _ _ rfl (by exact (HO.out.1.alloc _)) ⟨wr.heap.size, 0, none⟩ 1 1 [.int .i64 y.1, .string y.2] rfl rfl (by exact (letter_at _ y _ _ (by simp))) (letter_one y) (by have := HLN.out; unfold maxLen; omega) (by have := HLN.out; omega) (by simp; omega) ?_; intro v' w4 hown' hgrow _ hloc; clear hloc; have HST := Lib.hid (own_step hbel HO.out hym hown' hgrow); clear hown' hgrow)
            go_roundw
            case rel => exact ⟨i, j + 1, M ++ [y], by omega, by omega, by go_num, by go_num, HS.out, by rw [List.length_append, HLN.out]; simp; omega, HST.out.1, HST.out.2⟩
            case measure => simp [intOf]; omega
        · have hjd : ((j : Int) == (m : Int)) = true := by simp; omega
          have hjd2 : decide ((j : Int) < (m : Int)) = false := by simp; omega
          have hd : ys.drop j = [] := List.drop_eq_nil_of_le (by rw [HM.out]; omega)
          by_cases hin : i < n
          · obtain ⟨g, off, x, rfl, hx, hxm, c0, c1⟩ := (HL.out.ext hbel).at_ i hin
            have HS := Lib.hid (show (M ++ [x]) ++ mergeL (xs.drop (i + 1)) (ys.drop j) = mergeL xs ys from by
              rw [← HMM.out, drop_at xs i x hx, hd, mergeL_nil, mergeL_nil]; simp)
            have hid' : decide ((i : Int) < (n : Int)) = true := by simp; omega
            have hi2 : (i : Int) < (n : Int) := by omega
            clear hx hd
            go_wp2_with fail
            go_quiet (fail)
            go_wp2_with (at_builtin; refine wpList_append_own_at _ rfl _ _ 23 rfl w.heap.size 31 i0 _ 2 24 Try.underlying23 hi hz0 hz1 hz2 rfl (by decide) _ _ _ rfl (by exact (HO.out.1.alloc _)) ⟨wr.heap.size, 0, none⟩ 1 1 [.int .i64 x.1, .string x.2] rfl rfl (by exact (letter_at _ x _ _ (by simp))) (letter_one x) (by have := HLN.out; unfold maxLen; omega) (by have := HLN.out; omega) (by simp; omega) ?_; intro v' w4 hown' hgrow _ hloc; clear hloc; have HST := Lib.hid (own_step hbel HO.out hxm hown' hgrow); clear hown' hgrow)
            go_roundw
            case rel => exact ⟨i + 1, j, M ++ [x], by omega, by omega, by go_num, by go_num, HS.out, by rw [List.length_append, HLN.out]; simp; omega, HST.out.1, HST.out.2⟩
            case measure => simp [intOf]; omega
          · have hid' : decide ((i : Int) < (n : Int)) = false := by simp; omega
            have hd2 : xs.drop i = [] := List.drop_eq_nil_of_le (by rw [HN.out]; omega)
            have hME : M = mergeL xs ys := by rw [← HMM.out, hd, hd2]; simp [mergeL]
            subst hME
            obtain ⟨A5, c5, rfl, hls5⟩ := HO.out.read
            have HL5 := Lib.hid hls5
            clear hd hd2 hls5
            cases hb : batchB (mergeL xs ys) with
            | true =>
              have HB := Lib.hid hb
              have HR := Lib.hid (show mergeR xs ys = mergeL xs ys from by simp only [mergeR, H.out, hb, if_true])
              have HOK := Lib.hid (show mergeOk xs ys = true from by rw [H.out]; exact hb)
              clear hb
              go_wp2_with (go_at_call 33; refine (impl_BatchValid _ _ _ _ _ HL5.out).mono ?_; rintro e w5 ⟨rfl, hb5⟩; rw [HB.out])
              go_ret2
              exact ⟨_, ret_val (by rw [HOK.out]; rfl), by rw [HR.out]; exact HO.out.ext hb5, (by repeat (first | exact Below.refl _ _ | assumption | refine ext_alloc ?_ _ | refine Below.drew ?_ | refine below_drewN' ?_ _ | refine ext_set ?_ (by first | (simp; done) | (simp; omega) | omega) _ | refine ext_trans ?_ (by assumption)))⟩
            | false =>
              have HB := Lib.hid hb
              have HR := Lib.hid (show mergeR xs ys = [] from by simp only [mergeR, H.out, hb]; rfl)
              have HOK := Lib.hid (show mergeOk xs ys = false from by rw [H.out]; exact hb)
              clear hb
              go_wp2_with (go_at_call 33; refine (impl_BatchValid _ _ _ _ _ HL5.out).mono ?_; rintro e w5 ⟨rfl, hb5⟩; rw [HB.out])
              go_ret2
              exact ⟨_, ret_val (by rw [HOK.out]; rfl), by rw [HR.out]; exact Own.nil _ _, (by repeat (first | exact Below.refl _ _ | assumption | refine ext_alloc ?_ _ | refine Below.drew ?_ | refine below_drewN' ?_ _ | refine ext_set ?_ (by first | (simp; done) | (simp; omega) | omega) _ | refine ext_trans ?_ (by assumption)))⟩

end Go.Proofs.Ytafngfmloiikoaa
