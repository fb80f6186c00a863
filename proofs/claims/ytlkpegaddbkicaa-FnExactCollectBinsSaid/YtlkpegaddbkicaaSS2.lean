/-
  WALKS: the exact laws' own helpers on bins: toLetterSS, szLetterSS, eqLetterSS, markLetterSS, heldLetterSS. By an AI agent.
-/
import Derived.Test.YtlkpegaddbkicaaBin2
import Derived.Laws.OwnMore
namespace Go.Proofs.Ytlkpegaddbkicaa
open Go.RowKit

set_option maxHeartbeats 2000000 in
theorem eqLetterSS_same (A : Option Addr) (n cap : Nat) (A2 : Option Addr) (n2 cap2 : Nat) (bss : List (List Ltr)) (w : World) (h : LSS w A n cap bss) (h2 : LSS w A2 n2 cap2 bss) :
    Calls Try.prog 18 #[.slice A n cap, .slice A2 n2 cap2] w fun e w' => e = .returned (.bool true) ∧ Below w.heap.size w w' := by
  obtain rfl : n2 = n := h2.1.symm.trans h.1
  have HL := Lib.hid h
  have HL2 := Lib.hid h2
  have hcap := h.2.1
  have hmax := h.2.2.1
  unfold maxLen at hmax
  clear h h2
  go_enter Try.func18, Try.ntmps18
  go_wp2_with fail
  go_loopw [5] (fun iv wr => ∃ k : Nat, k ≤ n2 ∧ iv = .int .i64 k ∧ Below w.heap.size w wr) (fun iv _ => n2 - (intOf iv).toNat)
  case atStart => exact ⟨0, by omega, rfl, Below.refl _ _⟩
  case round =>
    obtain ⟨k, hk, rfl, hbel⟩ := hrel
    by_cases hkn : k < n2
    · obtain ⟨g, off, b, A', n', c', rfl, hb, c0, hls, _⟩ := (HL.out.ext hbel).at_ k hkn
      obtain ⟨g2, off2, b2, A2', n2', c2', rfl, hb2, d0, hls2, _⟩ := (HL2.out.ext hbel).at_ k hkn
      obtain rfl : b2 = b := by rw [hb] at hb2; injection hb2 with hb2; exact hb2.symm
      have hki : (k : Int) < (n2 : Int) := by omega
      have HA := Lib.hid hls
      have HB := Lib.hid hls2
      clear hb hb2 hls hls2
      go_wp2_with fail
      go_region_held3 (fun x => x.cell? ⟨g, off + k, none⟩ = some (.slice A' n' c') ∧ x.cell? ⟨g2, off2 + k, none⟩ = some (.slice A2' n2' c2')) (first | exact ⟨c0, d0⟩ | assumption | exact ⟨cell_later hb3 c0, cell_later hb3 d0⟩) (first | (go_at_call 19; refine (eqLetterS_same _ _ _ _ _ _ b2 _ (by exact HA.out) (by exact HB.out)).mono ?_; rintro e w2 ⟨rfl, hb3⟩))
      go_wp2_with fail
      go_roundw
      case rel => exact ⟨k + 1, by omega, by go_num, (by repeat (first | exact Below.refl _ _ | assumption | refine ext_alloc ?_ _ | refine Below.drew ?_ | refine below_drewN' ?_ _ | refine ext_set ?_ (by first | (simp; done) | (simp; omega) | omega) _ | refine ext_trans ?_ (by assumption)))⟩
      case measure => simp [intOf]; omega
    · go_wp2_with fail
      go_ret
      exact ⟨rfl, hbel⟩

/-- The marks of bins. -/
def marksSS (k : Int) : List (List Ltr) → List (List Ltr)
  | [] => []
  | b :: bs => marks k b.length :: marksSS (k + 2 * (b.length : Int)) bs
theorem marksSS_len (k : Int) (bss : List (List Ltr)) : (marksSS k bss).length = bss.length := by
  induction bss generalizing k with
  | nil => rfl
  | cons b bs ih => simp [marksSS, ih]
theorem marksSS_snoc (k : Int) (bss : List (List Ltr)) (b : List Ltr) : marksSS k (bss ++ [b]) = marksSS k bss ++ [marks (k + 2 * (bss.flatten.length : Int)) b.length] := by
  induction bss generalizing k with
  | nil => simp [marksSS]
  | cons c cs ih =>
    simp only [List.cons_append, marksSS, ih, List.flatten_cons, List.length_append]
    congr 3
    congr 1
    push_cast
    omega
theorem flat_take (bss : List (List Ltr)) (i : Nat) (b : List Ltr) (h : bss[i]? = some b) : ((bss.take (i + 1)).flatten.length : Int) = (bss.take i).flatten.length + b.length := by
  rw [take_snoc' bss i b h, List.flatten_append, List.length_append]; simp
theorem flat_le (bss : List (List Ltr)) (i : Nat) : (bss.take i).flatten.length ≤ bss.flatten.length := by
  have h : bss.flatten = (bss.take i).flatten ++ (bss.drop i).flatten := by rw [← List.flatten_append, List.take_append_drop]
  rw [h, List.length_append]; omega
theorem marksSS_mid (k : Int) (i : Nat) (bss : List (List Ltr)) (b : List Ltr) (h : bss[i]? = some b) : (marksSS k (bss.take i) ++ bss.drop i)[i]? = some b := by
  have hl := (List.getElem?_eq_some_iff.1 h).1
  have e : (marksSS k (bss.take i)).length = i := by rw [marksSS_len, List.length_take]; omega
  rw [List.getElem?_append_right (by omega), e, Nat.sub_self, List.getElem?_drop, Nat.add_zero]; exact h
theorem marksSS_step (k : Int) (i : Nat) (bss : List (List Ltr)) (b : List Ltr) (h : bss[i]? = some b) :
    (marksSS k (bss.take i) ++ bss.drop i).set i (marks (k + 2 * ((bss.take i).flatten.length : Int)) b.length) = marksSS k (bss.take (i + 1)) ++ bss.drop (i + 1) := by
  have hl := (List.getElem?_eq_some_iff.1 h).1
  have e : (marksSS k (bss.take i)).length = i := by rw [marksSS_len, List.length_take]; omega
  rw [take_snoc' bss i b h, marksSS_snoc, List.set_append_right _ _ (by omega), e, Nat.sub_self, drop_at bss i b h, List.set_cons_zero, List.append_assoc]; rfl
theorem marksSS_at (k : Int) (bss : List (List Ltr)) (i : Nat) (b : List Ltr) (h : bss[i]? = some b) : (marksSS k bss)[i]? = some (marks (k + 2 * ((bss.take i).flatten.length : Int)) b.length) := by
  induction bss generalizing k i with
  | nil => simp at h
  | cons c cs ih =>
    cases i with
    | zero => simp at h; subst h; simp [marksSS]
    | succ i =>
      simp only [marksSS, List.getElem?_cons_succ] at h ⊢
      rw [ih _ i h]
      simp only [List.take_succ_cons, List.flatten_cons, List.length_append]
      congr 2
      push_cast
      omega

/-- One of the slices is written in place. -/
theorem OwnSS.upd {w w4 : World} {B : Nat} {v : Value} {vs : List Value} {bss : List (List Ltr)} (h : OwnSS w B v vs bss) (d : Nat) (u : Value) (b' : List Ltr) (hd : vs[d]? = some u)
    (hg : w.grownBy w4 u.ownBlock) (ho : Own w4 B u b') : OwnSS w4 B v vs (bss.set d b') := by
  refine ⟨?_, ?_, h.apart, h.out⟩
  · rw [List.length_set]
    refine h.row.kept hg ?_
    cases hv : v.ownBlock with
    | none => exact .inl rfl
    | some g => exact .inr (fun e => h.out d u hd g e.symm hv)
  · intro i x b hx hb
    by_cases e : d = i
    · subst e
      rw [hd] at hx; injection hx with hx; subst hx
      rw [List.getElem?_set_self (by rw [← h.vlen]; exact (List.getElem?_eq_some_iff.1 hd).1)] at hb
      injection hb with hb; subst hb; exact ho
    · rw [List.getElem?_set_ne e] at hb
      exact (h.each i x b hx hb).kept hg (fun k hk he => h.apart i d x u hx hd (fun e2 => e e2.symm) k hk he)
/-- What markLetterSS does. -/
def MarkedSS (k : Int) (bss : List (List Ltr)) (v : Value) (vs : List Value) (B lo hi : Nat) (w : World) (e : Ending) (w' : World) : Prop :=
  e = .returned (.int .i64 (k + 2 * (bss.flatten.length : Int))) ∧ OwnSS w' B v vs (marksSS k bss) ∧ Chg lo hi w w'

set_option maxHeartbeats 2000000 in
theorem markLetterSS_any (k : Int) (B lo hi : Nat) (v : Value) (vs : List Value) (bss : List (List Ltr)) (w : World) (h : OwnSS w B v vs bss) (hr : RngSS lo hi v vs) (hk0 : 0 ≤ k) (hk : k + 2 * (bss.flatten.length : Int) ≤ 100000000) :
    Calls Try.prog 21 #[v, .int .i64 k] w (MarkedSS k bss v vs B lo hi w) := by
  obtain ⟨A, cap, rfl, hls, _⟩ := h.read
  have hcap := hls.2.1
  have hmax := hls.2.2.1
  unfold maxLen at hmax
  clear hls
  obtain ⟨n, hn⟩ : ∃ n, n = bss.length := ⟨_, rfl⟩
  rw [← hn] at h hr hcap ⊢
  have HN := Lib.hid hn
  have HO := Lib.hid h
  have HRG := Lib.hid hr
  have HK := Lib.hid hk
  clear hn h hr
  go_enter Try.func21, Try.ntmps21
  go_wp2_with fail
  go_loopw [1, 5] (fun kv iv wr => ∃ i : Nat, i ≤ n ∧ kv = .int .i64 (k + 2 * ((bss.take i).flatten.length : Int)) ∧ iv = .int .i64 i ∧ OwnSS wr B (.slice A n cap) vs (marksSS k (bss.take i) ++ bss.drop i) ∧ Chg lo hi w wr) (fun _ iv _ => n - (intOf iv).toNat)
  case atStart => exact ⟨0, by omega, by simp, rfl, by simpa [marksSS] using HO.out, Chg.refl _ _ _⟩
  case round =>
    obtain ⟨i, hi', rfl, rfl, hown, hg⟩ := hrel
    have HW := Lib.hid hown
    have HG := Lib.hid hg
    clear hown hg
    by_cases hin : i < n
    · obtain ⟨g, cap', hA⟩ := HO.out.form (by have := HN.out; omega)
      simp at hA
      obtain ⟨rfl, hx1, hx2⟩ := hA
      clear hx1 hx2
      obtain ⟨b, hb⟩ : ∃ b, bss[i]? = some b := ⟨bss[i]'(by have := HN.out; omega), List.getElem?_eq_getElem _⟩
      have hmid := marksSS_mid k i bss b hb
      obtain ⟨u, b', hu, hb', hob⟩ := HW.out.get i (by rw [List.length_append, marksSS_len, List.length_take, List.length_drop]; have := HN.out; omega)
      obtain rfl : b' = b := by rw [hmid] at hb'; injection hb' with hb'; exact hb'.symm
      have hft := flat_take bss i b' hb
      have hfl := flat_le bss (i + 1)
      obtain ⟨K, hK⟩ : ∃ K : Int, k + 2 * ((bss.take i).flatten.length : Int) = K := ⟨_, rfl⟩
      have HST := Lib.hid (marksSS_step k i bss b' hb)
      have hK2 : k + 2 * ((bss.take (i + 1)).flatten.length : Int) = K + 2 * (b'.length : Int) := by omega
      rw [hK] at HST ⊢
      have HK2 := Lib.hid hK2
      have hKb : K + 2 * (b'.length : Int) ≤ 100000000 := by omega
      have hK0 : 0 ≤ K := by omega
      obtain ⟨c0, f0⟩ := HW.out.cell i u hu
      have HU := Lib.hid hu
      have HOB := Lib.hid hob
      clear hb hmid hb' hft hfl hK hK2 hu hob hk
      obtain ⟨Au, cu, rfl, _⟩ := HOB.out.read
      go_wp2_with fail
      refine (markLetterS_any K B _ _ _ HOB.out hK0 hKb).mono ?_
      rintro e w2 ⟨rfl, ho2, hg2⟩
      have H2 := Lib.hid (HW.out.upd i _ _ HU.out hg2 ho2)
      rw [HST.out] at H2
      have HG2 := Lib.hid (HG.out.trans (Chg.ofGrown hg2 (HRG.out.2 i _ HU.out)))
      clear ho2 hg2
      go_wp2_with fail
      go_roundw
      case rel => exact ⟨i + 1, by omega, by rw [HK2.out], by go_num, H2.out, HG2.out⟩
      case measure => simp [intOf]; omega
    · obtain rfl : i = n := by omega
      have HT := Lib.hid (show bss.take i = bss from List.take_of_length_le (by rw [← HN.out]; exact Nat.le_refl _))
      have HF := Lib.hid (show OwnSS wr B (.slice A i cap) vs (marksSS k bss) from by
        have hh := HW.out
        rwa [HT.out, List.drop_eq_nil_of_le (by rw [← HN.out]; exact Nat.le_refl _), List.append_nil] at hh)
      rw [HT.out]
      go_wp2_with fail
      go_ret
      exact ⟨rfl, HF.out, HG.out⟩

set_option maxHeartbeats 2000000 in
theorem heldLetterSS_any (k : Int) (A : Option Addr) (n cap : Nat) (bss : List (List Ltr)) (w : World) (h : LSS w A n cap (marksSS k bss)) (hk0 : 0 ≤ k) (hk : k + 2 * (bss.flatten.length : Int) ≤ 100000000) :
    Calls Try.prog 22 #[.slice A n cap, .int .i64 k] w fun e w' => e = .returned (.int .i64 (k + 2 * (bss.flatten.length : Int))) ∧ Below w.heap.size w w' := by
  have HN := Lib.hid (show bss.length = n from by have := h.1; rwa [marksSS_len] at this)
  have HL := Lib.hid h
  have hcap := h.2.1
  have hmax := h.2.2.1
  unfold maxLen at hmax
  clear h
  have HK := Lib.hid hk
  go_enter Try.func22, Try.ntmps22
  go_wp2_with fail
  go_loopw [1, 5] (fun kv iv wr => ∃ i : Nat, i ≤ n ∧ kv = .int .i64 (k + 2 * ((bss.take i).flatten.length : Int)) ∧ iv = .int .i64 i ∧ Below w.heap.size w wr) (fun _ iv _ => n - (intOf iv).toNat)
  case atStart => exact ⟨0, by omega, by simp, rfl, Below.refl _ _⟩
  case round =>
    obtain ⟨i, hi', rfl, rfl, hbel⟩ := hrel
    by_cases hin : i < n
    · obtain ⟨b, hb⟩ : ∃ b, bss[i]? = some b := ⟨bss[i]'(by have := HN.out; omega), List.getElem?_eq_getElem _⟩
      obtain ⟨g, off, b', A', n', c', rfl, hb', c0, hls, _⟩ := (HL.out.ext hbel).at_ i hin
      have hat := marksSS_at k bss i b hb
      have hbe : b' = marks (k + 2 * ((bss.take i).flatten.length : Int)) b.length := by rw [hat] at hb'; injection hb' with hb'; exact hb'.symm
      subst hbe
      have hft := flat_take bss i b hb
      have hfl := flat_le bss (i + 1)
      obtain ⟨K, hK⟩ : ∃ K : Int, k + 2 * ((bss.take i).flatten.length : Int) = K := ⟨_, rfl⟩
      have hK2 : k + 2 * ((bss.take (i + 1)).flatten.length : Int) = K + 2 * (b.length : Int) := by omega
      rw [hK] at hls ⊢
      obtain rfl : n' = b.length := by have := hls.1; rw [marks_len] at this; exact this.symm
      have HK2 := Lib.hid hK2
      have hKb : K + 2 * (b.length : Int) ≤ 100000000 := by omega
      have hK0 : 0 ≤ K := by omega
      have hKn : decide (K + 2 * (b.length : Int) < 0) = false := by simp; omega
      have HLS := Lib.hid hls
      have hin' : (i : Int) < (n : Int) := by omega
      clear hb hb' hft hfl hK hK2 hat hls hk
      go_wp2_with fail
      refine (heldLetterS_any K _ _ _ _ HLS.out hK0 hKb).mono ?_
      rintro e w2 ⟨rfl, hb2⟩
      go_wp2_with fail
      go_roundw
      case rel => exact ⟨i + 1, by omega, by rw [HK2.out], by go_num, (by repeat (first | exact Below.refl _ _ | assumption | refine ext_alloc ?_ _ | refine Below.drew ?_ | refine below_drewN' ?_ _ | refine ext_set ?_ (by first | (simp; done) | (simp; omega) | omega) _ | refine ext_trans ?_ (by assumption)))⟩
      case measure => simp [intOf]; omega
    · obtain rfl : i = n := by omega
      have HT := Lib.hid (show bss.take i = bss from List.take_of_length_le (by rw [HN.out]; exact Nat.le_refl _))
      rw [HT.out]
      go_wp2_with fail
      go_ret
      exact ⟨rfl, hbel⟩

theorem make_rows (n : Nat) (hn : n ≤ 1048576) (w : World) : ∃ cs : Array Value, cs.toList = List.replicate n (.slice none 0 0) ∧
    (Instr.makeSlice 24 (.int .i64 (n : Int)) (.int .i64 (n : Int))).run Try.prog w = .ok (.slice (some ⟨w.heap.size, 0, none⟩) n n) (w.alloc (.cells cs 27)) := by
  obtain ⟨i0, hi, hz0, hz1, hz2⟩ := info_parts info_letters
  refine ⟨_, ?_, run_make_rowN' 24 27 i0 _ Try.underlying24 hi hz0 .i64 .i64 n n (Nat.le_refl _) (by rw [hz2]; omega) (by omega) w⟩
  rw [hz1, Nat.mul_one]; exact toList_madeCells_one _ _
theorem rows_step (bss : List (List Ltr)) (k n : Nat) (b : List Ltr) (h : bss[k]? = some b) (hn : k < n) : (bss.take k ++ List.replicate (n - k) []).set k b = bss.take (k + 1) ++ List.replicate (n - (k + 1)) [] := by
  have hl := (List.getElem?_eq_some_iff.1 h).1
  have e : (bss.take k).length = k := by rw [List.length_take]; omega
  rw [List.set_append_right _ _ (by omega), e, Nat.sub_self, show n - k = (n - (k + 1)) + 1 by omega, List.replicate_succ, List.set_cons_zero, take_snoc' bss k b h, List.append_assoc]; rfl

set_option maxHeartbeats 2000000 in
theorem toLetterSS_any (A : Option Addr) (n cap : Nat) (bss : List (List Ltr)) (w : World) (h : LSS w A n cap bss) (hn : n ≤ 1048576) (hb : ∀ b ∈ bss, b.length ≤ 1048576) :
    Calls Try.prog 28 #[.slice A n cap] w (MakesSS bss w) := by
  have HL := Lib.hid h
  have HLEN := Lib.hid h.1
  have HBL := Lib.hid hb
  clear h hb
  obtain ⟨cs, hcs, hmk⟩ := make_rows n hn w
  have HO0 := Lib.hid (ownSS_new (w := w) (Nat.le_refl _) (by unfold maxLen; omega) cs hcs)
  clear hcs
  go_enter Try.func28, Try.ntmps28
  go_wp2_with fail
  clear hmk
  go_loopw [4] (fun iv wr => ∃ (k : Nat) (vs : List Value), k ≤ n ∧ iv = .int .i64 k ∧ OwnSS wr w.heap.size (.slice (some ⟨w.heap.size, 0, none⟩) n n) vs (bss.take k ++ List.replicate (n - k) []) ∧ Below w.heap.size w wr) (fun iv _ => n - (intOf iv).toNat)
  case atStart => exact ⟨0, _, by omega, rfl, by simpa using HO0.out, (by repeat (first | exact Below.refl _ _ | assumption | refine ext_alloc ?_ _ | refine Below.drew ?_ | refine below_drewN' ?_ _ | refine ext_set ?_ (by first | (simp; done) | (simp; omega) | omega) _ | refine ext_trans ?_ (by assumption)))⟩
  case round =>
    obtain ⟨k, vs, hk, rfl, hown, hbel⟩ := hrel
    have HO := Lib.hid hown
    clear hown HO0
    by_cases hkn : k < n
    · obtain ⟨g, off, b, A', n', c', rfl, hbk, c0, hls, hnil⟩ := (HL.out.ext hbel).at_ k hkn
      have hbl := HBL.out b (List.mem_of_getElem? hbk)
      obtain rfl : n' = b.length := hls.1.symm
      have HS := Lib.hid (rows_step bss k n b hbk hkn)
      obtain ⟨u, b', hu, _, _⟩ := HO.out.get k (by rw [List.length_append, List.length_take, List.length_replicate, HLEN.out]; omega)
      have HU := Lib.hid hu
      have HLS := Lib.hid hls
      have hsize := hbel.size
      clear hls hbk hu
      go_wp2_with fail
      refine (toLetterS_any _ _ _ _ _ HLS.out hbl).mono ?_
      rintro e w2 ⟨⟨v2, rfl, ho2⟩, hb2⟩
      obtain ⟨e0, f0⟩ := (HO.out.ext hb2).cell k u HU.out
      have HP := Lib.hid (HO.out.put k u v2 b HU.out ⟨hb2.os, hb2.tape, hb2.output, hb2.size, fun i hi _ => hb2.block i hi⟩ (ho2.mono hbel.size) (fun j hj => .inr (ho2.1.lt j hj).1))
      rw [HS.out] at HP
      obtain ⟨Au, cu, rfl, _⟩ := ho2.read
      clear ho2
      go_wp2_with fail
      go_roundw
      case rel => exact ⟨k + 1, _, by omega, by go_num, HP.out, (by repeat (first | exact Below.refl _ _ | assumption | refine ext_alloc ?_ _ | refine Below.drew ?_ | refine below_drewN' ?_ _ | refine ext_set ?_ (by first | (simp; done) | (simp; omega) | omega) _ | refine ext_trans ?_ (by assumption)))⟩
      case measure => simp [intOf]; omega
    · have HF := Lib.hid (show OwnSS wr w.heap.size (.slice (some ⟨w.heap.size, 0, none⟩) n n) vs bss from by
        have hh := HO.out
        rwa [List.take_of_length_le (by rw [HLEN.out]; omega), show n - k = 0 by omega, List.replicate_zero, List.append_nil] at hh)
      go_wp2_with fail
      go_ret
      exact ⟨_, vs, rfl, HF.out, hbel⟩

/-- What szLetterSS reckons. -/
def szSF : List (List Ltr) → Int → Int
  | [], x => x
  | b :: bs, x => if szL b x < 0 then -1 else szSF bs (szL b x)
def szSS (bss : List (List Ltr)) (x : Int) : Int := if x - bss.length < 0 then -1 else szSF bss (x - bss.length)
theorem szL_len2 (ls : List Ltr) (x : Int) (h : 0 ≤ szL ls x) : szL ls x ≤ x - ls.length := by
  unfold szL at h ⊢
  split at h
  · omega
  · rename_i hh
    rw [if_neg hh]; exact szF_le _ _ (by omega)
theorem szSF_len : ∀ (bss : List (List Ltr)) (x : Int), 0 ≤ x → 0 ≤ szSF bss x → (bss.flatten.length : Int) ≤ x
  | [], x, hx, _ => by simpa using hx
  | b :: bs, x, hx, h => by
    simp only [szSF] at h
    split at h
    · omega
    · rename_i hn
      have h1 := szL_len2 b x (by omega)
      have h2 := szSF_len bs (szL b x) (by omega) h
      rw [List.flatten_cons, List.length_append]
      push_cast
      omega
theorem szSS_len (bss : List (List Ltr)) (x : Int) (h : 0 ≤ szSS bss x) : (bss.length : Int) + bss.flatten.length ≤ x := by
  unfold szSS at h
  split at h
  · omega
  · have := szSF_len bss (x - bss.length) (by omega) h; omega

set_option maxHeartbeats 2000000 in
theorem szLetterSS_any (A : Option Addr) (n cap : Nat) (bss : List (List Ltr)) (x : Int) (w : World) (h : LSS w A n cap bss) (hx0 : 0 ≤ x) (hx : x ≤ 1048576) :
    Calls Try.prog 26 #[.slice A n cap, .int .i64 x] w fun e w' => e = .returned (.int .i64 (szSS bss x)) ∧ Below w.heap.size w w' := by
  have HL := Lib.hid h
  have HLEN := Lib.hid h.1
  have hcap := h.2.1
  have hmax := h.2.2.1
  unfold maxLen at hmax
  clear h
  by_cases hneg : x - n < 0
  · have H := Lib.hid (show szSS bss x = -1 from by unfold szSS; rw [HLEN.out, if_pos hneg])
    go_enter Try.func26, Try.ntmps26
    go_wp2_with fail
    go_ret
    exact ⟨ret_int H.out.symm, (by repeat (first | exact Below.refl _ _ | assumption | refine ext_alloc ?_ _ | refine Below.drew ?_ | refine below_drewN' ?_ _ | refine ext_set ?_ (by first | (simp; done) | (simp; omega) | omega) _ | refine ext_trans ?_ (by assumption)))⟩
  · have H := Lib.hid (show szSS bss x = szSF bss (x - n) from by unfold szSS; rw [HLEN.out, if_neg hneg])
    have hnd : decide (x - (n : Int) < 0) = false := by simpa using hneg
    go_enter Try.func26, Try.ntmps26
    go_wp2_with fail
    go_loopw [1, 5] (fun lv iv wr => ∃ (k : Nat) (y : Int), k ≤ n ∧ iv = .int .i64 k ∧ lv = .int .i64 y ∧ 0 ≤ y ∧ y ≤ 1048576 ∧ szSF (bss.drop k) y = szSF bss (x - n) ∧ Below w.heap.size w wr) (fun _ iv _ => n - (intOf iv).toNat)
    case atStart => exact ⟨0, x - n, by omega, rfl, rfl, by omega, by omega, rfl, Below.refl _ _⟩
    case round =>
      obtain ⟨k, y, hk, rfl, rfl, hy0, hy, hsz, hbel⟩ := hrel
      have HS := Lib.hid hsz
      clear hsz
      by_cases hkn : k < n
      · obtain ⟨g, off, b, A', n', c', rfl, hbk, c0, hls, hnil⟩ := (HL.out.ext hbel).at_ k hkn
        obtain ⟨z, hz⟩ : ∃ z, szL b y = z := ⟨_, rfl⟩
        have HS2 := Lib.hid (show szSF bss (x - n) = if z < 0 then -1 else szSF (bss.drop (k + 1)) z from by rw [← HS.out, drop_at bss k b hbk, ← hz]; rfl)
        have hzy := szL_le b y hy0
        rw [hz] at hzy
        have HZ := Lib.hid hz
        have HLS := Lib.hid hls
        have hki : (k : Int) < (n : Int) := by omega
        clear hbk hls hz
        by_cases hng : z < 0
        · have HS3 := Lib.hid (show szSF bss (x - n) = -1 from by rw [HS2.out, if_pos hng])
          go_wp2_with (go_at_call 14; refine (szLetterS_any _ _ _ _ _ _ HLS.out hy0 hy).mono ?_; rintro e w2 ⟨rfl, hb2⟩; rw [HZ.out])
          go_ret
          exact ⟨ret_int (by rw [H.out, HS3.out]), (by repeat (first | exact Below.refl _ _ | assumption | refine ext_alloc ?_ _ | refine Below.drew ?_ | refine below_drewN' ?_ _ | refine ext_set ?_ (by first | (simp; done) | (simp; omega) | omega) _ | refine ext_trans ?_ (by assumption)))⟩
        · have HS3 := Lib.hid (show szSF bss (x - n) = szSF (bss.drop (k + 1)) z from by rw [HS2.out, if_neg hng])
          have hz0 : 0 ≤ z := by omega
          have hz1 : z ≤ 1048576 := by omega
          go_wp2_with (go_at_call 14; refine (szLetterS_any _ _ _ _ _ _ HLS.out hy0 hy).mono ?_; rintro e w2 ⟨rfl, hb2⟩; rw [HZ.out])
          go_roundw
          case rel => exact ⟨k + 1, z, by omega, by go_num, rfl, hz0, hz1, by rw [HS3.out], (by repeat (first | exact Below.refl _ _ | assumption | refine ext_alloc ?_ _ | refine Below.drew ?_ | refine below_drewN' ?_ _ | refine ext_set ?_ (by first | (simp; done) | (simp; omega) | omega) _ | refine ext_trans ?_ (by assumption)))⟩
          case measure => simp [intOf]; omega
      · have hd : bss.drop k = [] := List.drop_eq_nil_of_le (by rw [HLEN.out]; omega)
        have HS3 := Lib.hid (show szSF bss (x - n) = y from by rw [← HS.out, hd]; rfl)
        clear hd
        go_wp2_with fail
        go_ret
        exact ⟨ret_int (by rw [H.out, HS3.out]), hbel⟩

end Go.Proofs.Ytlkpegaddbkicaa
