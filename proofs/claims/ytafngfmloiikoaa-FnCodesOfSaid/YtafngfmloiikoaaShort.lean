/-
  WALKS: copyLetters, l2Sort, SortShort of both sides. By an AI agent.
-/
import Derived.Test.YtafngfmloiikoaaPass
import Derived.Test.YtafngfmloiikoaaVary2
import Derived.Laws.CopyRow
namespace Go.Proofs.Ytafngfmloiikoaa
open Go.RowKit

/-- The program's copy of cells of more than one cell an element. -/
theorem run_copy_rowN {P : Program} (w : World) (dT sT ty elem : TypeId) (g dLen dCap : Nat) (a : Addr) (sLen sCap : Nat) (cur : Array Value) (t : TypeId) (cs : List Value) (size : Nat)
    (hu : P.underlying dT = some (.slice elem)) (hs : (P.info? elem).map (·.size) = some size)
    (hg : w.heap[g]? = some (.cells cur t (0, 0))) (hn : cs.length = Nat.min sLen dLen * size) (hk : Nat.min sLen dLen = dLen)
    (hsrc : ∀ j v, cs[j]? = some v → w.cell? (a.add j) = some v) (hfit : cs.length = cur.size) (h1 : ∀ v ∈ cs, v.oneCell' = true) :
    (Builtin.copy_ #[dT, sT] ty #[.slice (some ⟨g, 0, none⟩) dLen dCap, .slice (some a) sLen sCap]).run P w = .ok (goInt dLen) (w.setRow g cs.toArray) := by
  have hl := run_loadCells_list (P := P) w a cs hsrc
  have hst := run_storeCells_at P g 0 t cs 0 cur w hg (by omega) h1
  have hdr : cur.toList.drop cs.length = [] := List.drop_eq_nil_of_le (by rw [hfit]; simp)
  cases hq : P.info? elem with
  | none => simp [hq] at hs
  | some i =>
    have hi : i.size = size := by simpa [hq] using hs
    simp [hdr] at hst
    rw [hk] at hn
    simp [Builtin.copy_, run_underlying hu, Builtin.lenOf, Builtin.firstCells, sizeOf, typeInfo, hq, hi, hk, ← hn, hl, hst]

theorem size_letter : (Try.prog.info? 31).map (·.size) = some 2 := by
  obtain ⟨i0, hi, hz0, hz1, hz2⟩ := info_parts info_letter
  rw [hi]; simp [hz1]

/-- Letters copied into a new row. -/
theorem copy_new {w : World} {A : Option Addr} {n cap : Nat} {ls : List Ltr} {cs : Array Value} (h : LS w A n cap ls) (hnil : A = none → cap = 0) (hcs : cs.size = n * 2) :
    ∃ w', (∀ ty : TypeId, (Builtin.copy_ #[23, 23] ty #[.slice (some ⟨w.heap.size, 0, none⟩) n n, .slice A n cap]).run Try.prog (w.alloc (.cells cs 31)) = .ok (goInt n) w') ∧
      Own w' w.heap.size (.slice (some ⟨w.heap.size, 0, none⟩) n n) ls ∧ Below w.heap.size w w' := by
  have hn := h.1
  have hcm : n ≤ maxLen := Nat.le_trans h.2.1 h.2.2.1
  have hlen : (cellsL ls).length = cs.size := by rw [cellsL_length, hn, hcs]
  have hrow := Row.made w 31 cs
  cases A with
  | none =>
    obtain rfl := hnil rfl
    obtain rfl : n = 0 := by have := h.2.1; omega
    obtain rfl : ls = [] := List.eq_nil_of_length_eq_zero hn
    refine ⟨_, fun ty => run_copy_nil (P := Try.prog) _ 23 23 ty 31 _ _ _ Try.underlying23 (by rw [size_letter]; rfl), ?_, below_box _ _⟩
    exact ⟨World.ownsRow_made w cs 0 (Nat.le_refl _) hcm hcs, fun l hl => by cases hl⟩
  | some ad =>
    refine ⟨_, fun ty => run_copy_rowN (P := Try.prog) _ 23 23 ty 31 w.heap.size n n ad n cap cs 31 (cellsL ls) 2 Try.underlying23 size_letter hrow (by rw [cellsL_length, hn]; simp) (by simp) (h.ext (below_box w _)).news hlen (cellsL_oneCell ls), ?_, ?_⟩
    · refine ⟨⟨cellsL_length ls, .inr ⟨w.heap.size, n, (cellsL ls).toArray, by rw [hn], Nat.le_refl _, setRow_heap _ _ _ _ _ _ hrow, by omega, hcm, by simp [cellsL_length, hn], by simp; exact List.take_of_length_le (by rw [cellsL_length]; exact Nat.le_refl _)⟩⟩, h.2.2.2.1⟩
    · exact (below_box w _).trans ⟨rfl, rfl, rfl, by simp [World.setRow], fun k hk => setRow_other _ _ k _ (by omega)⟩

set_option maxHeartbeats 1000000 in
theorem copyLetters_any (A : Option Addr) (n cap : Nat) (ls : List Ltr) (w : World) (h : LS w A n cap ls) (hnil : A = none → cap = 0) (hn : n ≤ 1048576) :
    Calls Try.prog 78 #[.slice A n cap] w (Makes ls w) := by
  obtain ⟨cs, hcs, hmk⟩ := make_letters n hn w
  obtain ⟨w2, hr, ho, hb⟩ := copy_new h hnil hcs
  have hr3 := hr 3
  have HO := Lib.hid ho
  clear hcs hr ho h
  go_enter Try.func78, Try.ntmps78
  go_wp2_with fail
  go_ret
  exact ⟨_, rfl, HO.out, hb⟩

/-- Passes for some digits, from the last one to the first one. -/
def sortL (ls : List Ltr) : List Int → List Ltr
  | [] => ls
  | d :: ds => passL (sortL ls ds) d.toNat
theorem sortL_perm (ls : List Ltr) (hb : batchB ls = true) : ∀ ds : List Int, (∀ d ∈ ds, 0 ≤ d ∧ d < 7) → List.Perm (sortL ls ds) ls
  | [], _ => List.Perm.refl _
  | d :: ds, h => by
    have ih := sortL_perm ls hb ds (fun x hx => h x (List.mem_cons_of_mem _ hx))
    have hd := h d (by simp)
    have hb2 : batchB (sortL ls ds) = true := by rw [batchB_perm ih]; exact hb
    exact (passL_perm _ _ (batch_digs hb2 _ (by omega))).trans ih
theorem sortL_batch {ls : List Ltr} (hb : batchB ls = true) {ds : List Int} (h : ∀ d ∈ ds, 0 ≤ d ∧ d < 7) : batchB (sortL ls ds) = true := by
  rw [batchB_perm (sortL_perm ls hb ds h)]; exact hb
theorem drop_digs {ds : List Int} (h : ∀ d ∈ ds, 0 ≤ d ∧ d < 7) (j : Nat) : ∀ d ∈ ds.drop j, 0 ≤ d ∧ d < 7 := fun d hd => h d (List.mem_of_mem_drop hd)

set_option maxHeartbeats 2000000 in
theorem l2Sort_any (A : Option Addr) (n cap : Nat) (ls : List Ltr) (B : Nat) (A2 : Option Addr) (m c2 : Nat) (ds : List Int) (w : World) (h : LS w A n cap ls) (hnil : A = none → cap = 0) (h2 : OwnI w B (.slice A2 m c2) ds)
    (hB : batchB ls = true) (hds : ∀ d ∈ ds, 0 ≤ d ∧ d < 7) (hm : m ≤ 100) :
    Calls Try.prog 76 #[.slice A n cap, .slice A2 m c2] w (Makes (sortL ls ds) w) := by
  have HL := Lib.hid h
  have HD := Lib.hid h2
  have HLEN := Lib.hid h.1
  have HML := Lib.hid h2.len
  have HB := Lib.hid hB
  have HDS := Lib.hid hds
  have hn60 := batch_len hB
  rw [HLEN.out] at hn60
  obtain ⟨v1, w1, hr1, ho1, hb1, _, _⟩ := own_apps (W := w) (below_box w (.cells #[] 31)) (own_made (Nat.le_refl _)) (h.ext (below_box _ _)) hnil (by simp; omega) 23
  rw [List.nil_append] at ho1
  have HR1 := Lib.hid hr1
  have HO1 := Lib.hid ho1
  clear h h2 hB hds hr1 ho1
  go_enter Try.func76, Try.ntmps76
  go_wp2_with (at_builtin; refine wpList_append_run rfl (.tmp 7) (.tmp 8) 23 rfl _ _ v1 w1 rfl rfl (by exact HR1.out) ?_)
  go_loopw [5, 6] (fun v iv wr => ∃ j : Nat, j ≤ m ∧ iv = .int .i64 ((j : Int) - 1) ∧ Own wr w.heap.size v (sortL ls (ds.drop j)) ∧ Below w.heap.size w wr) (fun _ iv _ => (intOf iv + 1).toNat)
  case atStart => exact ⟨m, Nat.le_refl _, rfl, by rw [List.drop_eq_nil_of_le (by rw [← HML.out]; exact Nat.le_refl _)]; exact HO1.out, hb1⟩
  case round =>
    obtain ⟨j, hj, rfl, hown, hbel⟩ := hrel
    have HO := Lib.hid hown
    clear hown HO1
    by_cases hj0 : 0 < j
    · obtain ⟨i, rfl⟩ : ∃ i, j = i + 1 := ⟨j - 1, by omega⟩
      rw [show (((i + 1 : Nat) : Int) - 1) = (i : Int) by omega]
      obtain ⟨g, x, rfl, hx, c0⟩ := (HD.out.ext hbel).at_ i (by omega)
      have hxr := HDS.out x (List.mem_of_getElem? hx)
      obtain ⟨d, rfl⟩ : ∃ d : Nat, x = d := ⟨x.toNat, by omega⟩
      have hd7 : d < 7 := by omega
      have hbs := sortL_batch HB.out (drop_digs HDS.out (i + 1))
      have HBS := Lib.hid hbs
      have HST := Lib.hid (show sortL ls (ds.drop i) = (binsL (sortL ls (ds.drop (i + 1))) d).flatten from by rw [drop_at ds i _ hx]; rfl)
      have HF := Lib.hid (show (binsL (sortL ls (ds.drop (i + 1))) d).flatten.length ≤ 4194304 from by
        have h1 := (passL_perm _ d (batch_digs hbs d hd7)).length_eq
        have h2 := batch_len hbs
        unfold passL at h1
        omega)
      obtain ⟨Av, cv, rfl, hlv⟩ := HO.out.read
      have HLV := Lib.hid hlv
      obtain ⟨M, hM⟩ : ∃ M, (sortL ls (ds.drop (i + 1))).length = M := ⟨_, rfl⟩
      rw [hM] at HLV ⊢
      have him : (i : Int) < (m : Int) := by omega
      have hii : decide (0 ≤ (i : Int)) = true := by simp
      clear hx hxr hbs hlv hM
      go_wp2_with fail
      refine (l2Bins_any _ _ _ _ _ _ HLV.out HBS.out hd7).mono ?_
      rintro e w2 ⟨v2, vs2, rfl, ho2, hb2⟩
      obtain ⟨Ab, cb, rfl, hlb, _⟩ := ho2.read
      have HLB := Lib.hid hlb
      clear hlb ho2
      go_wp2_with fail
      refine (l2Collect_any _ _ _ _ _ HLB.out HF.out).mono ?_
      rintro e w3 ⟨v3, rfl, ho3, hb3⟩
      have HO3 := Lib.hid (ho3.mono (Nat.le_trans hbel.size hb2.size))
      rw [← HST.out] at HO3
      clear ho3
      go_wp2_with fail
      go_roundw
      case rel => exact ⟨i, by omega, by go_num, HO3.out, (by repeat (first | exact Below.refl _ _ | assumption | refine ext_alloc ?_ _ | refine Below.drew ?_ | refine below_drewN' ?_ _ | refine ext_set ?_ (by first | (simp; done) | (simp; omega) | omega) _ | refine ext_trans ?_ (by assumption)))⟩
      case measure => simp [intOf]
    · obtain rfl : j = 0 := by omega
      go_wp2_with fail
      go_ret
      exact ⟨_, rfl, HO.out, hbel⟩

theorem varyL_digs (ls : List Ltr) : ∀ d ∈ varyL ls, 0 ≤ d ∧ d < 7 := by
  intro d hd
  unfold varyL at hd
  split at hd
  · unfold varyTo at hd
    obtain ⟨k, hk, rfl⟩ := List.mem_map.1 hd
    have := List.mem_range.1 (List.mem_filter.1 hk).1
    omega
  · cases hd
theorem varyL_short (ls : List Ltr) : (varyL ls).length ≤ 7 := by
  unfold varyL; split
  · exact varyTo_le ls 7
  · exact Nat.zero_le _
/-- What SortShort answers. -/
def shortR (ls : List Ltr) : List Ltr := if batchB ls = true then sortL ls (varyL ls) else []

theorem shortR_len (ls : List Ltr) : (shortR ls).length ≤ ls.length := by
  unfold shortR
  split
  · rename_i h
    rw [(sortL_perm ls h _ (varyL_digs ls)).length_eq]; exact Nat.le_refl _
  · exact Nat.zero_le _

end Go.Proofs.Ytafngfmloiikoaa
