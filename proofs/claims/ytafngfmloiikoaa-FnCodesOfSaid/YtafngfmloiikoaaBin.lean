/-
  WALKS: BinPass of the program. By an AI agent.
-/
import Derived.Test.YtafngfmloiikoaaSS
import Derived.Deep.RegionLaw
import Derived.Deep.DrawnRows
namespace Go.Proofs.Ytafngfmloiikoaa
open Go.RowKit

attribute [local go_sem ↓] Go.wp_at_zero Go.wp_at_succ

/-- The letters with a digit at an index of their codes. -/
def binL (ls : List Ltr) (d k : Nat) : List Ltr := ls.filter fun l => dig l.2 d == 48 + k
/-- The ten bins. -/
def binsL (ls : List Ltr) (d : Nat) : List (List Ltr) := (List.range 10).map (binL ls d)
theorem binsL_len (ls : List Ltr) (d : Nat) : (binsL ls d).length = 10 := by simp [binsL]
theorem binsL_at (ls : List Ltr) (d k : Nat) (h : k < 10) : (binsL ls d)[k]? = some (binL ls d k) := by simp [binsL, h]
theorem binL_snoc (ls : List Ltr) (d k : Nat) (l : Ltr) : binL (ls ++ [l]) d k = binL ls d k ++ if dig l.2 d = 48 + k then [l] else [] := by
  unfold binL; rw [List.filter_append]; by_cases h : dig l.2 d = 48 + k <;> simp [h]
theorem binsL_snoc (ls : List Ltr) (d k : Nat) (l : Ltr) (hk : k < 10) (h : dig l.2 d = 48 + k) : (binsL ls d).set k (binL ls d k ++ [l]) = binsL (ls ++ [l]) d := by
  apply List.ext_getElem?
  intro i
  by_cases hi : i < 10
  · rw [binsL_at _ _ _ hi, binL_snoc]
    by_cases e : k = i
    · subst e
      rw [List.getElem?_set_self (by rw [binsL_len]; exact hk), if_pos h]
    · rw [List.getElem?_set_ne e, binsL_at _ _ _ hi, if_neg (by omega)]; simp
  · rw [List.getElem?_eq_none (by simp [binsL_len]; omega), List.getElem?_eq_none (by simp [binsL_len]; omega)]
theorem binL_le (ls : List Ltr) (d k : Nat) : (binL ls d k).length ≤ ls.length := List.length_filter_le _ _
theorem batch_dig {ls : List Ltr} (h : batchB ls = true) {l : Ltr} {k : Nat} (hl : ls[k]? = some l) (d : Nat) (hd : d < 7) : ∃ k : Nat, k < 10 ∧ dig l.2 d = 48 + k := by
  have hc := ((batchB_true ls).1 h).2.1 l (List.mem_of_getElem? hl)
  simp only [okL, codeB, Bool.and_eq_true, decide_eq_true_eq] at hc
  obtain ⟨_, hs, ha⟩ := hc
  have hd' : d < l.2.size := by omega
  have hm : l.2[d] ∈ l.2.data.toList := by
    rw [show l.2[d] = l.2.data.toList[d]'(by simpa using hd') from by simp [ByteArray.getElem_eq_getElem_data]]
    exact List.getElem_mem _
  simp only [allDig, List.all_eq_true] at ha
  have := ha _ hm
  simp [digB] at this
  rw [← dig_eq l.2 d hd']
  exact ⟨l.2[d].toNat - 48, by omega, by omega⟩
theorem info_letters : (Try.prog.info? 23).map (fun i => (i.zero, i.size, i.bytes)) = some (some (.slice none 0 0), 1, 24) := by kernel_rfl
theorem flat_rep {α : Type} (a : α) : ∀ n, (List.replicate n [a]).flatten = List.replicate n a
  | 0 => rfl
  | n + 1 => by rw [List.replicate_succ, List.flatten_cons, flat_rep a n]; rfl
/-- A new row of n empty slices. -/
theorem ownSS_new {w : World} {B n : Nat} (hB : B ≤ w.heap.size) (hn : n ≤ maxLen) (cs : Array Value) (hc : cs.toList = List.replicate n (.slice none 0 0)) :
    OwnSS (w.alloc (.cells cs 23)) B (.slice (some ⟨w.heap.size, 0, none⟩) n n) (List.replicate n (.slice none 0 0)) (List.replicate n []) := by
  have hsz : cs.size = n := by rw [← Array.length_toList, hc]; simp
  have hat : ∀ (i : Nat) (u : Value), (List.replicate n (Value.slice none 0 0))[i]? = some u → u = .slice none 0 0 := by
    intro i u hu
    rw [List.getElem?_replicate] at hu
    split at hu
    · injection hu with hu; exact hu.symm
    · cases hu
  refine ⟨⟨by simp, .inr ⟨w.heap.size, n, cs, by simp, hB, heap_alloc_new w _, by simp, hn, by omega, by rw [hc]; simp⟩⟩, ?_, ?_, ?_⟩
  · intro i u b hu hb
    rw [hat i u hu]
    rw [List.getElem?_replicate] at hb
    split at hb
    · injection hb with hb; subst hb; exact Own.nil _ _
    · cases hb
  · intro i j a b ha _ _ g hg
    rw [hat i a ha] at hg; cases hg
  · intro i u hu g hg
    rw [hat i u hu] at hg; cases hg
theorem make_bins (w : World) : ∃ cs : Array Value, cs.toList = List.replicate 10 (.slice none 0 0) ∧
    (Instr.makeSlice 26 (.int .i64 10) (.int .i64 10)).run Try.prog w = .ok (.slice (some ⟨w.heap.size, 0, none⟩) 10 10) (w.alloc (.cells cs 23)) := by
  obtain ⟨i0, hi, hz0, hz1, hz2⟩ := info_parts info_letters
  refine ⟨_, ?_, run_make_rowN' 26 23 i0 _ Try.underlying26 hi hz0 .i64 .i64 10 10 (Nat.le_refl _) (by rw [hz2]; omega) (by omega) w⟩
  rw [hz1]; simp [madeCells, Value.cells]; rfl
/-- A step of a loop that puts a letter into a bin. -/
theorem bin_step {W wr X w4 : World} {g n cap g' cap' H : Nat} {vs : List Value} {bss : List (List Ltr)} {k : Nat} {u : Value} {b : List Ltr} {x : Ltr} (hbel : Below W.heap.size W wr) (hx : Below wr.heap.size wr X)
    (ho : OwnSS wr W.heap.size (.slice (some ⟨g, 0, none⟩) n cap) vs bss) (hu : vs[k]? = some u) (hb : bss[k]? = some b) (hm : x.2.size ≤ maxLen)
    (hown' : w4.ownsRow W.heap.size 31 2 (.slice (some ⟨g', 0, none⟩) (b.length + 1) cap') (b.length + 1) (cellsL b ++ [.int .i64 x.1, .string x.2]))
    (hgrow : X.grownBy w4 u.ownBlock) (hat : u.ownBlock = some g' ∨ g' = H) (hH : wr.heap.size ≤ H) :
    OwnSS (w4.setCell ⟨g, k, none⟩ (.slice (some ⟨g', 0, none⟩) (b.length + 1) cap')) W.heap.size (.slice (some ⟨g, 0, none⟩) n cap) (vs.set k (.slice (some ⟨g', 0, none⟩) (b.length + 1) cap')) (bss.set k (b ++ [x])) ∧
    Below W.heap.size W (w4.setCell ⟨g, k, none⟩ (.slice (some ⟨g', 0, none⟩) (b.length + 1) cap')) := by
  have hub := ho.each k u b hu hb
  have hg2 : wr.grownBy w4 u.ownBlock := ⟨hgrow.os.trans hx.os, hgrow.tape.trans hx.tape, hgrow.output.trans hx.output, Nat.le_trans hx.size hgrow.size, fun i hi hne => (hgrow.block i (Nat.lt_of_lt_of_le hi hx.size) hne).trans (hx.block i hi)⟩
  have hO : Own w4 W.heap.size (.slice (some ⟨g', 0, none⟩) (b.length + 1) cap') (b ++ [x]) := hub.app hm hown'
  refine ⟨ho.put k u _ _ hu hg2 hO (fun j hj => ?_), ?_⟩
  · simp [Value.ownBlock] at hj
    subst hj
    rcases hat with h | h
    · exact .inl h
    · exact .inr (by omega)
  · refine ext_set (below_app hbel hub hbel.size hg2) ?_ _
    exact (ho.rng.1 g rfl).1

/-- A cell of another block, behind an append. -/
theorem far_keep {w X w4 : World} {row : Option Nat} {p : Addr} {v : Value} (hg : X.grownBy w4 row) (hx : Below w.heap.size w X) (hne : row ≠ some p.block) (h1 : w.cell? p = some v) (h2 : w.frozen? p = false) : w4.cell? p = some v ∧ w4.frozen? p = false := by
  have hl := World.block_lt_of_cell? w _ h1
  refine ⟨?_, ?_⟩
  · rw [hg.cell_far p (Nat.lt_of_lt_of_le hl hx.size) (Ne.symm hne), hx.cell hl]; exact h1
  · rw [hg.frozen_far p (Nat.lt_of_lt_of_le hl hx.size) (Ne.symm hne), hx.frozen hl]; exact h2

/-- What BinPass answers. -/
def binOk (ls : List Ltr) (d : Int) : Bool := batchB ls && (decide (0 ≤ d) && decide (d < 7))
def binsR (ls : List Ltr) (d : Int) : List (List Ltr) := if binOk ls d = true then binsL ls d.toNat else []
def GivesSS (bss : List (List Ltr)) (ok : Bool) (w : World) (e : Ending) (w' : World) : Prop :=
  ∃ v vs, e = .returned (.tuple #[v, .bool ok]) ∧ OwnSS w' w.heap.size v vs bss ∧ Below w.heap.size w w'

set_option maxRecDepth 100000 in
set_option maxHeartbeats 4000000 in
theorem impl_BinPass (A : Option Addr) (n cap : Nat) (ls : List Ltr) (di : Int) (w : World) (h : LS w A n cap ls) :
    Calls Try.prog 16 #[.slice A n cap, .int .i64 di] w (GivesSS (binsR ls di) (binOk ls di) w) := by
  have HL := Lib.hid h
  have HLEN := Lib.hid h.1
  clear h
  obtain ⟨i0, hi, hz0, hz1, hz2⟩ := info_parts info_letter
  cases hb : batchB ls with
  | false =>
    have H := Lib.hid (show binOk ls di = false from by simp [binOk, hb])
    have HB := Lib.hid hb
    clear hb
    go_enter Try.func16, Try.ntmps16
    go_wp2_with (go_at_call 33; refine (impl_BatchValid _ _ _ _ _ HL.out).mono ?_; rintro e w1 ⟨rfl, hb1⟩; rw [HB.out])
    go_ret2
    exact ⟨_, [], ret_val (by rw [H.out]; rfl), by simp only [binsR, H.out]; exact OwnSS.nil _ _, (by repeat (first | exact Below.refl _ _ | assumption | refine ext_alloc ?_ _ | refine Below.drew ?_ | refine below_drewN' ?_ _ | refine ext_set ?_ (by first | (simp; done) | (simp; omega) | omega) _ | refine ext_trans ?_ (by assumption)))⟩
  | true =>
    have hn60 := batch_len hb
    rw [HLEN.out] at hn60
    have HB := Lib.hid hb
    by_cases hd0 : di < 0
    · have H := Lib.hid (show binOk ls di = false from by simp [binOk]; omega)
      clear hb
      go_enter Try.func16, Try.ntmps16
      go_wp2_with (go_at_call 33; refine (impl_BatchValid _ _ _ _ _ HL.out).mono ?_; rintro e w1 ⟨rfl, hb1⟩; rw [HB.out])
      go_ret2
      exact ⟨_, [], ret_val (by rw [H.out]; rfl), by simp only [binsR, H.out]; exact OwnSS.nil _ _, (by repeat (first | exact Below.refl _ _ | assumption | refine ext_alloc ?_ _ | refine Below.drew ?_ | refine below_drewN' ?_ _ | refine ext_set ?_ (by first | (simp; done) | (simp; omega) | omega) _ | refine ext_trans ?_ (by assumption)))⟩
    · by_cases hd7 : 7 ≤ di
      · have H := Lib.hid (show binOk ls di = false from by simp [binOk]; omega)
        have hd0' : decide (di < 0) = false := by simpa using hd0
        clear hb
        go_enter Try.func16, Try.ntmps16
        go_wp2_with (go_at_call 33; refine (impl_BatchValid _ _ _ _ _ HL.out).mono ?_; rintro e w1 ⟨rfl, hb1⟩; rw [HB.out])
        go_ret2
        exact ⟨_, [], ret_val (by rw [H.out]; rfl), by simp only [binsR, H.out]; exact OwnSS.nil _ _, (by repeat (first | exact Below.refl _ _ | assumption | refine ext_alloc ?_ _ | refine Below.drew ?_ | refine below_drewN' ?_ _ | refine ext_set ?_ (by first | (simp; done) | (simp; omega) | omega) _ | refine ext_trans ?_ (by assumption)))⟩
      · obtain ⟨d, rfl⟩ : ∃ d : Nat, di = d := ⟨di.toNat, by omega⟩
        have H := Lib.hid (show binOk ls d = true from by simp [binOk, hb]; omega)
        have HR := Lib.hid (show binsR ls d = binsL ls d from by simp only [binsR, H.out, if_true, Int.toNat_natCast])
        have hd0' : decide ((d : Int) < 0) = false := by simp
        have hd7' : decide (7 ≤ (d : Int)) = false := by simpa using hd7
        have hdn : d < 7 := by omega
        clear hb hd0 hd7
        go_enter Try.func16, Try.ntmps16
        go_wp2_with fail
        refine (impl_BatchValid _ _ _ _ _ HL.out).mono ?_
        rintro e w1 ⟨rfl, hb1⟩
        rw [HB.out]
        obtain ⟨cs, hcs, hmk⟩ := make_bins w1
        have HO0 := Lib.hid (ownSS_new (w := w1) hb1.size (by unfold maxLen; omega) cs hcs)
        clear hcs
        go_wp2_with fail
        clear hmk
        go_loopw [24] (fun iv wr => ∃ (k : Nat) (vs : List Value), k ≤ n ∧ iv = .int .i64 k ∧ OwnSS wr w.heap.size (.slice (some ⟨w1.heap.size, 0, none⟩) 10 10) vs (binsL (ls.take k) d) ∧ Below w.heap.size w wr) (fun iv _ => n - (intOf iv).toNat)
        case atStart => exact ⟨0, _, by omega, rfl, HO0.out, (by repeat (first | exact Below.refl _ _ | assumption | refine ext_alloc ?_ _ | refine Below.drew ?_ | refine below_drewN' ?_ _ | refine ext_set ?_ (by first | (simp; done) | (simp; omega) | omega) _ | refine ext_trans ?_ (by assumption)))⟩
        case round =>
          obtain ⟨k, vs, hk, rfl, hown, hbel⟩ := hrel
          have HO := Lib.hid hown
          clear hown
          by_cases hkn : k < n
          · obtain ⟨g, off, l, rfl, hl, hlm, c0, c1⟩ := (HL.out.ext hbel).at_ k hkn
            have h7 := batch_code HB.out hl
            have hdl : d < l.2.size := by omega
            obtain ⟨j, hj, hdj⟩ := batch_dig HB.out hl d hdn
            have HQ := Lib.hid (dig_eq l.2 d hdl)
            have hq : (l.2[d].toNat : Int) = (j : Int) + 48 := by rw [HQ.out, hdj]; omega
            obtain ⟨u, b, hu, hbb, hob⟩ := HO.out.get j (by rw [binsL_len]; exact hj)
            have hbe : b = binL (ls.take k) d j := by rw [binsL_at _ _ _ hj] at hbb; injection hbb with hbb; exact hbb.symm
            have HS := Lib.hid (show (binsL (ls.take k) d).set j (b ++ [l]) = binsL (ls.take (k + 1)) d from by rw [hbe, take_snoc' ls k l hl]; exact binsL_snoc _ _ _ _ hj hdj)
            have hbl : b.length ≤ 60 := by rw [hbe]; have h1 := binL_le (ls.take k) d j; have h2 := List.length_take_le k ls; omega
            have HU := Lib.hid hu
            have HBB := Lib.hid hbb
            obtain ⟨e0, f0⟩ := HO.out.cell j u hu
            have hrs := HO.out.rng
            have hgl := (hrs.1 _ rfl).2
            have hub : u.ownBlock ≠ some w1.heap.size := fun he => HO.out.out j u hu _ he rfl
            have hub2 : u.ownBlock ≠ some wr.heap.size := fun he => by have := (hrs.2 j u hu _ he).2; omega
            obtain ⟨Ad, cd, rfl, _⟩ := hob.read
            have hj0 : (0 : Int) ≤ (j : Int) := by omega
            have hj1 : (j : Int) < 10 := by omega
            have hsize := hbel.size
            have HOB := Lib.hid hob
            have HUB := Lib.hid hub
            have HUB2 := Lib.hid hub2
            clear hl hdj hbe hbb hu h7 hob hrs hub hub2
            go_wp2_with fail
            have b0 : (wr.alloc (.cells #[.int .i64 l.1, .string l.2] 31)).cell? ⟨wr.heap.size, 0, none⟩ = some (.int .i64 l.1) := (Row.made wr 31 #[.int .i64 l.1, .string l.2]).cell 0
            have b1 : (wr.alloc (.cells #[.int .i64 l.1, .string l.2] 31)).cell? ⟨wr.heap.size, 1, none⟩ = some (.string l.2) := (Row.made wr 31 #[.int .i64 l.1, .string l.2]).cell 1
            have e1 : (wr.alloc (.cells #[.int .i64 l.1, .string l.2] 31)).cell? ⟨w1.heap.size, j, none⟩ = some (.slice Ad b.length cd) := cell_later (below_box _ _) e0
            have f1 : (wr.alloc (.cells #[.int .i64 l.1, .string l.2] 31)).frozen? ⟨w1.heap.size, j, none⟩ = false := by rw [(below_box wr _).frozen (by simpa using hgl)]; exact f0
            go_region_law ((refine step_append_lies _ (by rfl) _ _ _ (by rfl) w.heap.size 31 i0 _ 2 24 Try.underlying23 hi hz0 hz1 hz2 rfl (by omega) (.slice Ad b.length cd) b.length (cellsL b) (by rfl) (by exact ((HOB.out.1.alloc _).alloc _)) ⟨wr.heap.size + 1, 0, none⟩ 1 1 [.int .i64 l.1, .string l.2] (by rfl) (by rfl) (by exact (letter_at _ l _ _ (by simp))) (letter_one l) (by omega) (by unfold maxLen; omega) (by omega) (by simp; omega) (wr.heap.size + 2) (by simp) ?_; intro gg cap' w4 hown1 hgrow hat hlt; obtain ⟨g1, g2⟩ := far_keep (w := wr) hgrow (by repeat (first | exact Below.refl _ _ | assumption | refine ext_alloc ?_ _ | refine Below.drew ?_ | refine below_drewN' ?_ _ | refine ext_set ?_ (by first | (simp; done) | (simp; omega) | omega) _ | refine ext_trans ?_ (by assumption))) HUB.out e0 f0))
            all_goals
              have HST := Lib.hid (bin_step hbel (by repeat (first | exact Below.refl _ _ | assumption | refine ext_alloc ?_ _ | refine Below.drew ?_ | refine below_drewN' ?_ _ | refine ext_set ?_ (by first | (simp; done) | (simp; omega) | omega) _ | refine ext_trans ?_ (by assumption))) HO.out HU.out HBB.out hlm hown1 hgrow hat (by omega))
              rw [HS.out] at HST
              clear hown1 hgrow hat hlt g1 g2 b0 b1 e1 f1 e0 f0
              go_wp2_with fail
              go_roundw
              case rel => exact ⟨k + 1, _, by omega, by go_num, HST.out.1, HST.out.2⟩
              case measure => simp [intOf]; omega
          · have HK := Lib.hid (show ls.take k = ls from List.take_of_length_le (by rw [HLEN.out]; omega))
            have HF := Lib.hid (show OwnSS wr w.heap.size _ vs (binsL ls d) from by have hh := HO.out; rwa [HK.out] at hh)
            have hkd : decide ((k : Int) < (n : Int)) = false := by simp; omega
            go_wp2_with fail
            go_ret2
            exact ⟨_, vs, ret_val (by rw [H.out]; rfl), by rw [HR.out]; exact HF.out, hbel⟩

end Go.Proofs.Ytafngfmloiikoaa
