/-
  WALKS: the reference's drawn batches (l2Some, l2Bad, l2Open, l2Head). Only totality, bounds and what memory is touched. By an AI agent.
-/
import Derived.Test.YtafngfmloiikoaaSome
import Derived.Test.YtafngfmloiikoaaMerge
import Derived.Test.YtafngfmloiikoaaVary
namespace Go.Proofs.Ytafngfmloiikoaa
open Go.RowKit

def lenL : Value → Nat | .slice _ n _ => n | _ => 0
/-- A call that took draws and returned letters. -/
def GotL (Q : List Ltr → Prop) (r P : Nat) (w : World) (e : Ending) (w' : World) : Prop :=
  ∃ v ls, e = .returned v ∧ Own w' w.heap.size v ls ∧ Q ls ∧ Rd w' r P ∧ w.grownBy w' (some r)
theorem rd_app {x y : World} {r P B : Nat} {v : Value} {ls : List Ltr} (h : Rd x r P) (hg : x.grownBy y v.ownBlock) (ho : Own x B v ls) (hr : r < B) : Rd y r P := by
  have hl := h.lt
  exact h.keep ⟨hg.os, hg.tape, hg.output, hg.size, fun k hk => hg.block k (by omega) (fun e => by have := (ho.1.lt k e.symm).1; omega)⟩
theorem sub_app {w x y : World} {r P : Nat} {v : Value} {ls : List Ltr} (h : Sub w x r P) (hg : x.grownBy y v.ownBlock) (ho : Own x w.heap.size v ls) (hr : r < w.heap.size) : Sub w y r P := by
  refine ⟨rd_app h.1 hg ho hr, ?_⟩
  have h2 := h.2
  exact ⟨hg.os.trans h2.os, hg.tape.trans h2.tape, hg.output.trans h2.output, Nat.le_trans h2.size hg.size, fun i hi hne => (hg.block i (Nat.lt_of_lt_of_le hi h2.size) (fun e => by have := (ho.1.lt i e.symm).1; omega)).trans (h2.block i hi hne)⟩
theorem Own.got {x y : World} {B r : Nat} {v : Value} {ls : List Ltr} (h : Own x B v ls) (hg : x.grownBy y (some r)) (hr : r < B) : Own y B v ls :=
  h.kept hg (fun g hv he => by injection he with he; have := (h.1.lt g hv).1; omega)

theorem Row.made2 (w : World) (o : Obj) (e : TypeId) (cs : Array Value) : Row ((w.alloc o).alloc (.cells cs e)) (w.heap.size + 1) e cs := by
  have h := Row.made (w.alloc o) e cs
  have hs : (w.alloc o).heap.size = w.heap.size + 1 := by simp
  rwa [hs] at h
/-- The letters of l2Some. -/
def someOk (first : Int) (ls : List Ltr) : Prop := ∀ (i : Nat) (l : Ltr), ls[i]? = some l → l.1 = first + (i : Int) * 7 ∧ codeB l.2 = true
theorem someOk_snoc (first : Int) (ls : List Ltr) (s : ByteArray) (h : someOk first ls) (hs : codeB s = true) : someOk first (ls ++ [(first + (ls.length : Int) * 7, s)]) := by
  intro i l hl
  by_cases e : i < ls.length
  · rw [List.getElem?_append_left e] at hl; exact h i l hl
  · have hlt := (List.getElem?_eq_some_iff.1 hl).1
    simp at hlt
    obtain rfl : i = ls.length := by omega
    rw [List.getElem?_append_right (Nat.le_refl _)] at hl
    simp at hl
    subst hl
    exact ⟨rfl, hs⟩
theorem someOk_batch (first : Int) (ls : List Ltr) (h : someOk first ls) (hl : ls.length ≤ 14) (h1 : 1 ≤ first) (h2 : first ≤ 10) : batchB ls = true := by
  rw [batchB_true]
  refine ⟨by omega, fun l hm => ?_, ?_⟩
  · obtain ⟨i, hi⟩ := List.mem_iff_getElem?.1 hm
    have hlt := (List.getElem?_eq_some_iff.1 hi).1
    obtain ⟨e1, e2⟩ := h i l hi
    simp only [okL, e2, Bool.and_true, Bool.and_eq_true, decide_eq_true_eq]
    omega
  · rw [List.Nodup, List.pairwise_iff_getElem]
    intro i j hi hj hij he
    simp at hi hj
    have a := (h i _ (List.getElem?_eq_getElem hi)).1
    have b := (h j _ (List.getElem?_eq_getElem hj)).1
    simp at he
    omega
theorem digS_codeB (l : List UInt8) (h : l.length = 7) (hd : allDig l = true) : codeB (bs l) = true := by
  simp [codeB, bs, h, hd, ByteArray.size]

set_option maxHeartbeats 2000000 in
theorem l2Some_any (r P : Nat) (first : Int) (w : World) (h : Rd w r P) (hP : P ≤ 800000) (hf1 : 1 ≤ first) (hf2 : first ≤ 10) :
    Calls Try.prog 84 #[.pointer (some ⟨r, 0, none⟩), .int .i64 first] w (GotL (fun ls => batchB ls = true ∧ ls.length ≤ 14) r (P + 120) w) := by
  have hr := h.lt
  have HR := Lib.hid h
  clear h
  obtain ⟨i0, hi, hz0, hz1, hz2⟩ := info_parts info_letter
  have HO0 := Lib.hid (show Own (w.alloc (.cells #[] 31)) w.heap.size (.slice (some ⟨w.heap.size, 0, none⟩) 0 0) [] from ⟨World.ownsRow_made w #[] 0 (Nat.le_refl _) (by unfold maxLen; omega) rfl, fun l hl => by cases hl⟩)
  go_enter Try.func84, Try.ntmps84
  go_wp2_with fail
  refine (num_any r P (w.heap.size + 1) [6, 4, 9, 2, 14, 0, 1] _ ((HR.out.alloc _).alloc _) (by omega) (by decide) (Row.made2 _ _ _ _) (by omega) _).mono ?_
  rintro e w1 ⟨_, rfl, ⟨x, hx, rfl⟩, hr1, hg1⟩
  have hx0 : 0 ≤ x ∧ x ≤ 14 := by simp at hx; omega
  obtain ⟨m0, rfl⟩ : ∃ m : Nat, x = m := ⟨x.toNat, by omega⟩
  have HS := Lib.hid (show Sub w w1 r (P + 1) from (((Sub.mk1 HR.out).alloc _).alloc _).got hr1 hg1)
  replace HO0 := Lib.hid (((HO0.out.ext (below_box _ _)).got hg1 hr))
  clear hx hr1 hg1 HR
  go_wp2_with fail
  go_loopw [5, 6] (fun v nv wr => ∃ (M : List Ltr) (m : Nat), nv = .int .i64 m ∧ M.length + m ≤ 14 ∧ someOk first M ∧ Own wr w.heap.size v M ∧ Sub w wr r (P + 1 + 8 * M.length)) (fun _ nv _ => (intOf nv).toNat)
  case atStart => exact ⟨[], m0, rfl, by simp; omega, fun i l hl => by simp at hl, HO0.out, HS.out⟩
  case round =>
    clear HO0 HS hx0
    obtain ⟨M, m, rfl, hML, hok, hown, hsub⟩ := hrel
    have HO := Lib.hid hown
    have HS := Lib.hid hsub
    have HK := Lib.hid hok
    obtain ⟨Av, cv, rfl, _⟩ := hown.read
    obtain ⟨q, hq⟩ : ∃ q, M.length = q := ⟨_, rfl⟩
    have HQ := Lib.hid hq
    rw [hq] at hML HS HO ⊢
    clear hown hsub hok hq
    by_cases hm0 : 0 < m
    · obtain ⟨m, rfl⟩ : ∃ k, m = k + 1 := ⟨m - 1, by omega⟩
      have hmd : decide (0 < (((m + 1 : Nat)) : Int)) = true := by simp
      go_wp2_with fail
      refine (l1Some_any r _ _ HS.out.1 (by omega)).mono ?_
      rintro e w2 ⟨_, rfl, ⟨l, rfl, hl7, hld⟩, hr2, hg2⟩
      have HO2 := Lib.hid (HO.out.got hg2 hr)
      have HS2 := Lib.hid (HS.out.got hr2 hg2)
      have HK2 := Lib.hid (someOk_snoc first M (bs l) HK.out (digS_codeB l hl7 hld))
      rw [HQ.out] at HK2
      have hsz : (bs l).size ≤ maxLen := by simp [bs, ByteArray.size, hl7]; unfold maxLen; omega
      have hw2 := HS2.out.2.size
      clear hr2 hg2 hl7 hld
      go_wp2_with (at_builtin; refine wpList_append_own_at _ rfl _ _ 23 rfl w.heap.size 31 i0 _ 2 24 Try.underlying23 hi hz0 hz1 hz2 rfl (by decide) _ q (cellsL M) rfl (by have := HO2.out.1.alloc (Obj.cells #[.int .i64 (first + (q : Int) * 7), .string (bs l)] 31); rw [HQ.out] at this; exact this) ⟨w2.heap.size, 0, none⟩ 1 1 [.int .i64 (first + (q : Int) * 7), .string (bs l)] rfl rfl (by exact (letter_at _ (first + (q : Int) * 7, bs l) _ _ (by simp))) (letter_one (first + (q : Int) * 7, bs l)) (by unfold maxLen; omega) (by omega) (by simp; omega) ?_; intro v' w4 hown' hgrow _ hloc)
      have HO4 := Lib.hid (Own.app (x := (first + (q : Int) * 7, bs l)) HO2.out hsz (by rw [HQ.out]; exact hown'))
      have HS4 := Lib.hid (sub_app (HS2.out.alloc _) hgrow (HO2.out.ext (below_box _ _)) hr)
      clear hown' hgrow hloc
      go_wp2_with fail
      go_roundw
      case rel => exact ⟨M ++ [(first + (q : Int) * 7, bs l)], m, by go_num, by simp [HQ.out]; omega, HK2.out, HO4.out, HS4.out.mono (by simp [HQ.out]; omega)⟩
      case measure => simp [intOf]
    · obtain rfl : m = 0 := by omega
      go_wp2_with fail
      go_ret
      exact ⟨_, M, rfl, HO.out, ⟨someOk_batch first M HK.out (by have := HQ.out; omega) hf1 hf2, by have := HQ.out; omega⟩, HS.out.1.mono (by omega), HS.out.2⟩

/-- Old blocks but two are as they were. -/
structure Gr2 (w w' : World) (r : Nat) (o : Option Nat) : Prop where
  os : w'.os = w.os
  tape : w'.tape = w.tape
  output : w'.output = w.output
  size : w.heap.size ≤ w'.heap.size
  block : ∀ k, k < w.heap.size → k ≠ r → some k ≠ o → w'.heap[k]? = w.heap[k]?
theorem Gr2.refl (w : World) (r : Nat) (o : Option Nat) : Gr2 w w r o := ⟨rfl, rfl, rfl, Nat.le_refl _, fun _ _ _ _ => rfl⟩
theorem Gr2.app {w x y : World} {r : Nat} {o vo : Option Nat} (h : Gr2 w x r o) (hg : x.grownBy y vo) (hv : ∀ k, vo = some k → o = some k ∨ k = r ∨ w.heap.size ≤ k) : Gr2 w y r o :=
  ⟨hg.os.trans h.os, hg.tape.trans h.tape, hg.output.trans h.output, Nat.le_trans h.size hg.size, fun k hk h1 h2 => (hg.block k (Nat.lt_of_lt_of_le hk h.size) (fun e => by
    rcases hv k e.symm with h3 | h3 | h3
    · exact h2 h3.symm
    · exact h1 h3
    · omega)).trans (h.block k hk h1 h2)⟩
theorem Gr2.got {w x y : World} {r : Nat} {o : Option Nat} (h : Gr2 w x r o) (hg : x.grownBy y (some r)) : Gr2 w y r o := h.app hg (fun k hk => by injection hk with hk; exact .inr (.inl hk.symm))
theorem Gr2.ext {w x y : World} {r : Nat} {o : Option Nat} (h : Gr2 w x r o) (hb : Below x.heap.size x y) : Gr2 w y r o := h.app (grown_below hb none) (fun k hk => by cases hk)
theorem Gr2.alloc {w x : World} {r : Nat} {o : Option Nat} (h : Gr2 w x r o) (b : Obj) : Gr2 w (x.alloc b) r o := h.ext (below_box x b)
theorem Gr2.drew {w x : World} {r : Nat} {o : Option Nat} (h : Gr2 w x r o) : Gr2 w x.drew r o := ⟨h.os, h.tape, h.output, h.size, h.block⟩
theorem Gr2.set {w x : World} {r g j : Nat} (h : Gr2 w x r (some g)) (u : Value) : Gr2 w (x.setCell ⟨g, j, none⟩ u) r (some g) :=
  ⟨h.os, h.tape, h.output, by simpa [World.setCell] using h.size, fun k hk h1 h2 => (Below.heap_setCell x ⟨g, j, none⟩ u k (fun e => h2 (by rw [e]))).trans (h.block k hk h1 h2)⟩
theorem Rd.set {x : World} {r P g j : Nat} (h : Rd x r P) (hg : r < g) (u : Value) : Rd (x.setCell ⟨g, j, none⟩ u) r P :=
  h.keep ⟨rfl, rfl, rfl, by simp [World.setCell], fun k hk => Below.heap_setCell x ⟨g, j, none⟩ u k (by show k ≠ g; omega)⟩
/-- What l2Bad answers. -/
def BadL (B : Nat) (v : Value) (r P : Nat) (w : World) (e : Ending) (w' : World) : Prop :=
  ∃ v' ls, e = .returned v' ∧ Own w' B v' ls ∧ ls.length ≤ 61 ∧ Rd w' r P ∧ Gr2 w w' r v.ownBlock ∧ (∀ k, v'.ownBlock = some k → v.ownBlock = some k ∨ w.heap.size ≤ k)

set_option maxHeartbeats 4000000 in
theorem l2Bad_any (r P B : Nat) (v : Value) (ls : List Ltr) (w : World) (h : Rd w r P) (hP : P ≤ 800000) (ho : Own w B v ls) (hr : r < B) (hB : B ≤ w.heap.size) (hl : ls.length ≤ 60) (hs : ∀ l ∈ ls, l.2.size ≤ 100) :
    Calls Try.prog 85 #[.pointer (some ⟨r, 0, none⟩), v] w (BadL B v r (P + 3) w) := by
  obtain ⟨A, cap, rfl, _⟩ := ho.read
  obtain ⟨n, hn⟩ : ∃ n, ls.length = n := ⟨_, rfl⟩
  rw [hn] at hl ho ⊢
  have HN := Lib.hid hn
  have HR := Lib.hid h
  have HO := Lib.hid ho
  have HSZ := Lib.hid hs
  clear h ho hn hs
  by_cases hn0 : n = 0
  · subst hn0
    go_enter Try.func85, Try.ntmps85
    go_wp2_with fail
    go_ret
    exact ⟨_, ls, rfl, HO.out, by have := HN.out; omega, HR.out.mono (by omega), Gr2.refl _ _ _, fun k hk => .inl hk⟩
  · have hnd : ((n : Int) == 0) = false := by simp; omega
    obtain ⟨g, cap', hA⟩ := HO.out.form (by have := HN.out; omega)
    simp at hA
    obtain ⟨rfl, hx1, hx2⟩ := hA
    clear hx1 hx2
    have hBg : B ≤ g := (HO.out.1.lt g rfl).1
    have hrg : r < g := by omega
    go_enter Try.func85, Try.ntmps85
    go_wp2_with fail
    refine (pick_lit r _ _ _ HR.out (by omega) (by omega)).mono ?_
    rintro e w1 ⟨_, rfl, ⟨k, rfl, hk⟩, hr1, hg1⟩
    have HR1 := Lib.hid hr1
    have HO1 := Lib.hid (HO.out.got hg1 hr)
    have HG1 := Lib.hid ((Gr2.refl w r (some g)).got hg1)
    clear hr1 hg1
    go_wp2_with fail
    refine (pick_lit r _ _ _ HR1.out (by omega) (by omega)).mono ?_
    rintro e w2 ⟨_, rfl, ⟨q, rfl, hq⟩, hr2, hg2⟩
    have HR2 := Lib.hid hr2
    have HO2 := Lib.hid (HO1.out.got hg2 hr)
    have HG2 := Lib.hid (HG1.out.got hg2)
    clear hr2 hg2 HR1 HO1 HG1 HR HO
    have hkn : k < n := by omega
    obtain ⟨l, hlk⟩ : ∃ l, ls[k]? = some l := ⟨ls[k]'(by have := HN.out; omega), List.getElem?_eq_getElem _⟩
    have HLK := Lib.hid hlk
    have hlsz := HSZ.out l (List.mem_of_getElem? hlk)
    obtain ⟨c0, c1, f0, f1⟩ := HO2.out.cells k l hlk
    obtain ⟨l0, hl0⟩ : ∃ l, ls[0]? = some l := ⟨ls[0]'(by have := HN.out; omega), List.getElem?_eq_getElem _⟩
    obtain ⟨b0, _, _, _⟩ := HO2.out.cells 0 l0 hl0
    have d0 : w2.cell? ⟨g, 0, none⟩ = some (.int .i64 l0.1) := by simpa using b0
    have hn0' : (0 : Int) < (n : Int) := by omega
    clear hlk hl0 b0
    by_cases hq0 : q = 0
    · subst hq0
      have hno1 : ¬ 9223372036854775807 < l.2.size + 1 := by omega
      have hsa : (l.2 ++ (⟨#[49]⟩ : ByteArray)).size = l.2.size + 1 := by rw [size_app]; rfl
      go_wp2_with fail
      refine (l1Bad_any r _ 101 _ _ HR2.out (by omega) (by rw [hsa]; omega) (by rw [hsa]; omega) (by omega)).mono ?_
      rintro e w3 ⟨_, rfl, ⟨s, rfl, hss⟩, hr3, hg3⟩
      have HO3 := Lib.hid (HO2.out.got hg3 hr)
      obtain ⟨c0', c1', f0', f1'⟩ := HO3.out.cells k l HLK.out
      have HF := Lib.hid (HO3.out.setCode k l HLK.out s (by unfold maxLen; omega))
      have HRF := Lib.hid (Rd.set (j := k * 2 + 1) hr3 hrg (.string s))
      have HGF := Lib.hid ((HG2.out.got hg3).set (j := k * 2 + 1) (.string s))
      clear hr3 hg3 c0 c1 f0 f1 d0
      go_wp2_with fail
      go_ret
      exact ⟨_, _, rfl, HF.out, by simp [HN.out]; omega, HRF.out.mono (by omega), HGF.out, fun k hk => .inl hk⟩
    · have hqd0 : ((q : Int) == 0) = false := by simp; omega
      by_cases hq1 : q = 1
      · subst hq1
        go_wp2_with fail
        refine (num_any r _ w2.heap.size [0, 10000, 9999, -1, l0.1] _ (HR2.out.alloc _) (by omega) (by show 1 ≤ 5; omega) (Row.made _ _ _) (Nat.ne_of_gt HR2.out.lt) _).mono ?_
        rintro e w3 ⟨_, rfl, ⟨x, hx, rfl⟩, hr3, hg3⟩
        have HO3 := Lib.hid ((HO2.out.ext (below_box _ _)).got hg3 hr)
        obtain ⟨c0', c1', f0', f1'⟩ := HO3.out.cells k l HLK.out
        have HF := Lib.hid (HO3.out.setId k l HLK.out x)
        have HRF := Lib.hid (Rd.set (j := k * 2) hr3 hrg (.int .i64 x))
        have HGF := Lib.hid (((HG2.out.alloc _).got hg3).set (j := k * 2) (.int .i64 x))
        clear hr3 hg3 c0 c1 f0 f1 d0 hx
        go_wp2_with fail
        go_ret
        exact ⟨_, _, rfl, HF.out, by simp [HN.out]; omega, HRF.out.mono (by omega), HGF.out, fun k hk => .inl hk⟩
      · have hqd1 : ((q : Int) == 1) = false := by simp; omega
        clear c0 c1 f0 f1 d0
        by_cases hq2 : q = 2
        · subst hq2
          obtain ⟨i0, hi, hz0, hz1, hz2⟩ := info_parts info_letter
          have hw2 := HG2.out.size
          go_wp2_with fail
          go_loopw [1] (fun v wr => ∃ M : List Ltr, Own wr B v M ∧ M.length ≤ 61 ∧ Rd wr r (P + 3) ∧ Gr2 w wr r (some g) ∧ (∀ k, v.ownBlock = some k → some g = some k ∨ w.heap.size ≤ k)) (fun v _ => 61 - lenL v)
          case atStart => exact ⟨ls, HO2.out, by have := HN.out; omega, HR2.out.mono (by omega), HG2.out, fun k hk => .inl hk⟩
          case round =>
            clear HO2 HR2 HG2 hw2
            obtain ⟨M, hown, hML, hrd, hgr, hvb⟩ := hrel
            obtain ⟨Av, cv, rfl, _⟩ := hown.read
            obtain ⟨p, hp⟩ : ∃ p, M.length = p := ⟨_, rfl⟩
            have HPL := Lib.hid hp
            rw [hp] at hown hML hvb ⊢
            have HO := Lib.hid hown
            have HR := Lib.hid hrd
            have HG := Lib.hid hgr
            have HV := Lib.hid hvb
            have hsz := hgr.size
            clear hown hrd hgr hvb hp
            by_cases hp61 : p < 61
            · have hpd : decide ((p : Int) < 61) = true := by simp; omega
              go_wp2_with (at_builtin; refine wpList_append_own_at _ rfl _ _ 23 rfl B 31 i0 _ 2 24 Try.underlying23 hi hz0 hz1 hz2 rfl (by decide) _ p (cellsL M) rfl (by have := HO.out.1.alloc (Obj.cells #[.int .i64 (1000 + (p : Int)), .string ⟨#[49, 50, 48, 48, 49, 48, 49]⟩] 31); rw [HPL.out] at this; exact this) ⟨wr.heap.size, 0, none⟩ 1 1 [.int .i64 (1000 + (p : Int)), .string ⟨#[49, 50, 48, 48, 49, 48, 49]⟩] rfl rfl (by exact (letter_at _ (1000 + (p : Int), ⟨#[49, 50, 48, 48, 49, 48, 49]⟩) _ _ (by simp))) (letter_one (1000 + (p : Int), ⟨#[49, 50, 48, 48, 49, 48, 49]⟩)) (by unfold maxLen; omega) (by omega) (by simp; omega) ?_; intro v' w4 hown' hgrow _ hloc)
              have HO4 := Lib.hid (Own.app (x := (1000 + (p : Int), ⟨#[49, 50, 48, 48, 49, 48, 49]⟩)) HO.out (by show 7 ≤ maxLen; unfold maxLen; omega) (by rw [HPL.out]; exact hown'))
              have HR4 := Lib.hid (rd_app (HR.out.alloc _) hgrow (HO.out.ext (below_box _ _)) hr)
              have HG4 := Lib.hid ((HG.out.alloc _).app hgrow (fun k hk => by rcases HV.out k hk with h | h; (exact .inl h); (exact .inr (.inr h))))
              have HV4 := Lib.hid (show ∀ k, v'.ownBlock = some k → some g = some k ∨ w.heap.size ≤ k from fun k hk => by
                rcases hloc with h | h
                · exact HV.out k (h.symm.trans hk)
                · rw [h] at hk; injection hk with hk; simp at hk; exact .inr (by omega))
              have hlen' : (M ++ [(1000 + (p : Int), (⟨#[49, 50, 48, 48, 49, 48, 49]⟩ : ByteArray))]).length = p + 1 := by simp [HPL.out]
              obtain ⟨Av', cv', hv', _⟩ := HO4.out.read
              rw [hlen'] at hv'
              have HLN := Lib.hid hlen'
              subst hv'
              clear hown' hgrow hloc hlen'
              go_wp2_with fail
              go_roundw
              case rel => exact ⟨_, HO4.out, by rw [HLN.out]; omega, HR4.out, HG4.out, HV4.out⟩
              case measure => simp [lenL]; omega
            · have hpd : decide ((p : Int) < 61) = false := by simp; omega
              go_wp2_with fail
              go_ret
              exact ⟨_, M, rfl, HO.out, by have := HPL.out; omega, HR.out, HG.out, HV.out⟩
        · have hqd2 : ((q : Int) == 2) = false := by simp; omega
          go_wp2_with fail
          go_ret
          exact ⟨_, ls, rfl, HO2.out, by have := HN.out; omega, HR2.out.mono (by omega), HG2.out, fun k hk => .inl hk⟩

set_option maxHeartbeats 1000000 in
theorem l2Open_any (r P : Nat) (w : World) (h : Rd w r P) (hP : P ≤ 700000) :
    Calls Try.prog 58 #[.pointer (some ⟨r, 0, none⟩)] w (GotL (fun ls => ls.length ≤ 61) r (P + 130) w) := by
  have hr := h.lt
  have HR := Lib.hid h
  clear h
  go_enter Try.func58, Try.ntmps58
  go_wp2_with fail
  refine (pick_lit r _ _ _ HR.out (by omega) (by omega)).mono ?_
  rintro e w1 ⟨_, rfl, ⟨m, rfl, hm⟩, hr1, hg1⟩
  have HR1 := Lib.hid hr1
  have HG1 := Lib.hid hg1
  have hs1 := hg1.size
  clear hr1 hg1
  go_wp2_with fail
  refine (l2Some_any r _ _ _ HR1.out (by omega) (by omega) (by omega)).mono ?_
  rintro e w2 ⟨v, ls, rfl, ho, ⟨hbb, hl14⟩, hr2, hg2⟩
  have HR2 := Lib.hid hr2
  have HO2 := Lib.hid (ho.mono hs1)
  have hblk := HO2.out.1.lt
  have HG2 := Lib.hid (grown_trans' HG1.out hg2)
  have hs2 := HG2.out.size
  have HSZ := Lib.hid (show ∀ l ∈ ls, l.2.size ≤ 100 from fun l hl => by obtain ⟨k, hk⟩ := List.mem_iff_getElem?.1 hl; have := batch_code hbb hk; omega)
  clear hr2 ho hg2 hbb
  go_wp2_with fail
  refine (l2Bad_any r _ _ _ _ _ HR2.out (by omega) HO2.out hr hs2 (by omega) HSZ.out).mono ?_
  rintro e w3 ⟨v3, ls3, rfl, ho3, hl3, hr3, hg3, hv3⟩
  have HG3 := Lib.hid (show w.grownBy w3 (some r) from
    ⟨hg3.os.trans HG2.out.os, hg3.tape.trans HG2.out.tape, hg3.output.trans HG2.out.output, Nat.le_trans hs2 hg3.size, fun k hk hne => (hg3.block k (by omega) (fun e => hne (by rw [e])) (fun e => by have := (hblk k e.symm).1; omega)).trans (HG2.out.block k hk hne)⟩)
  have HO3 := Lib.hid ho3
  have HR3 := Lib.hid hr3
  clear ho3 hr3 hg3 hv3 hblk
  go_wp2_with fail
  go_ret
  exact ⟨_, ls3, rfl, HO3.out, hl3, HR3.out.mono (by omega), HG3.out⟩

set_option maxHeartbeats 1000000 in
theorem l2Head_any (r P : Nat) (w : World) (h : Rd w r P) (hP : P ≤ 800000) :
    Calls Try.prog 64 #[.pointer (some ⟨r, 0, none⟩)] w (Got (Str 8) r (P + 12) w) := by
  have HS := Lib.hid (Sub.mk1 h)
  clear h
  go_enter Try.func64, Try.ntmps64
  go_wp2_with fail; refine (pick_lit r _ 20 _ HS.out.1 (by omega) (by omega)).mono ?_; rintro e w1 ⟨_, rfl, ⟨m, rfl, hm⟩, hr, hg⟩; replace HS := Lib.hid (HS.out.got hr hg); clear hr hg
  by_cases h0 : m = 0
  · subst h0
    go_wp2_with fail
    refine (of_any r _ _ [⟨#[120]⟩, ⟨#[49, 50, 48, 48, 49, 48, 49, 48]⟩, ⟨#[45]⟩] _ (HS.out.1.alloc _) (by omega) (by decide) (Row.made _ _ _) (Nat.ne_of_gt HS.out.1.lt) _).mono ?_
    rintro e w1 ⟨_, rfl, ⟨x, hx, rfl⟩, hr, hg⟩
    replace HS := Lib.hid ((HS.out.alloc _).got hr hg)
    have hxs : x.size ≤ 8 := by
      simp at hx
      rcases hx with rfl | rfl | rfl <;> decide
    clear hr hg hx
    go_wp2_with fail
    go_ret
    exact HS.out.fin ⟨_, rfl, hxs⟩ (by omega)
  · have hm0 : ((m : Int) == 0) = false := by simp; omega
    by_cases h1 : m = 1
    · subst h1
      go_wp2_with fail
      go_ret
      exact HS.out.fin ⟨_, rfl, by decide⟩ (by omega)
    · have hm1 : ((m : Int) == 1) = false := by simp; omega
      go_wp2_with fail; refine (l1Some_any r _ _ HS.out.1 (by omega)).mono ?_; rintro e w1 ⟨_, rfl, ⟨l, rfl, hl, hdl⟩, hr, hg⟩; replace HS := Lib.hid (HS.out.got hr hg); clear hr hg
      go_wp2_with fail; refine (pick_lit r _ 8 _ HS.out.1 (by omega) (by omega)).mono ?_; rintro e w1 ⟨_, rfl, ⟨q, rfl, hq⟩, hr, hg⟩; replace HS := Lib.hid (HS.out.got hr hg); clear hr hg
      have hqs : (q : Int) ≤ ((bs l).size : Int) := by rw [bs_size, hl]; omega
      go_wp2_with fail
      go_ret
      exact HS.out.fin ⟨_, rfl, by rw [ByteArray.size_extract]; omega⟩ (by omega)

end Go.Proofs.Ytafngfmloiikoaa
