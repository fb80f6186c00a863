/-
  WALKS: CollectBins, SortPass of both sides. By an AI agent.
-/
import Derived.Test.YtafngfmloiikoaaBin2
namespace Go.Proofs.Ytafngfmloiikoaa
open Go.RowKit

/-- What a function that returns letters answers. -/
def Makes (ls : List Ltr) (w : World) (e : Ending) (w' : World) : Prop :=
  ∃ v, e = .returned v ∧ Own w' w.heap.size v ls ∧ Below w.heap.size w w'
theorem flat_take1 (bss : List (List Ltr)) (i : Nat) (b : List Ltr) (h : bss[i]? = some b) : (bss.take (i + 1)).flatten = (bss.take i).flatten ++ b := by
  rw [take_snoc' bss i b h, List.flatten_append]; simp
theorem flat_le1 (bss : List (List Ltr)) (i : Nat) : (bss.take i).flatten.length ≤ bss.flatten.length := by
  have h : bss.flatten = (bss.take i).flatten ++ (bss.drop i).flatten := by rw [← List.flatten_append, List.take_append_drop]
  rw [h, List.length_append]; omega

set_option maxHeartbeats 2000000 in
theorem l2Collect_any (A : Option Addr) (n cap : Nat) (bss : List (List Ltr)) (w : World) (h : LSS w A n cap bss) (hf : bss.flatten.length ≤ 4194304) :
    Calls Try.prog 70 #[.slice A n cap] w (Makes bss.flatten w) := by
  have HL := Lib.hid h
  have HLEN := Lib.hid h.1
  have hcap := h.2.1
  have hmax := h.2.2.1
  unfold maxLen at hmax
  have HF := Lib.hid hf
  clear h hf
  have HO0 := Lib.hid (own_made (Nat.le_refl w.heap.size))
  go_enter Try.func70, Try.ntmps70
  go_wp2_with fail
  go_loopw [3, 4] (fun v iv wr => ∃ k : Nat, k ≤ n ∧ iv = .int .i64 k ∧ Own wr w.heap.size v (bss.take k).flatten ∧ Below w.heap.size w wr) (fun _ iv _ => n - (intOf iv).toNat)
  case atStart => exact ⟨0, by omega, rfl, HO0.out, (by repeat (first | exact Below.refl _ _ | assumption | refine ext_alloc ?_ _ | refine Below.drew ?_ | refine below_drewN' ?_ _ | refine ext_set ?_ (by first | (simp; done) | (simp; omega) | omega) _ | refine ext_trans ?_ (by assumption)))⟩
  case round =>
    obtain ⟨k, hk, rfl, hown, hbel⟩ := hrel
    have HO := Lib.hid hown
    clear hown HO0
    by_cases hkn : k < n
    · obtain ⟨g, off, b, A', n', c', rfl, hbk, c0, hls, hnil⟩ := (HL.out.ext hbel).at_ k hkn
      have hfk := flat_take1 bss k b hbk
      have hle := flat_le1 bss (k + 1)
      rw [hfk, List.length_append] at hle
      have hn' : b.length = n' := hls.1
      obtain ⟨v2, w2, hr2, ho2, hb2, _, _⟩ := own_apps (W := w) hbel HO.out hls hnil (by have := HF.out; omega) 23
      rw [← hfk] at ho2
      have HR2 := Lib.hid hr2
      have HO2 := Lib.hid ho2
      have hki : (k : Int) < (n : Int) := by omega
      clear hls hbk hr2 ho2 hfk hle hn'
      go_wp2_with (at_builtin; refine wpList_append_run rfl (.tmp 12) (.tmp 16) 23 rfl _ _ v2 w2 rfl rfl (by exact HR2.out) ?_)
      go_roundw
      case rel => exact ⟨k + 1, by omega, by go_num, HO2.out, hb2⟩
      case measure => simp [intOf]; omega
    · have HK := Lib.hid (show Own wr w.heap.size _ bss.flatten from by have hh := HO.out; rwa [List.take_of_length_le (by rw [HLEN.out]; omega)] at hh)
      go_wp2_with fail
      go_ret
      exact ⟨_, rfl, HK.out, hbel⟩

/-- What CollectBins answers. -/
def collOk (bss : List (List Ltr)) : Bool := decide (bss.length ≤ 60) && batchB bss.flatten
def collR (bss : List (List Ltr)) : List Ltr := if collOk bss = true then bss.flatten else []

set_option maxHeartbeats 2000000 in
theorem spec_CollectBins (A : Option Addr) (n cap : Nat) (bss : List (List Ltr)) (w : World) (h : LSS w A n cap bss) (hf : bss.flatten.length ≤ 4194304) :
    Calls Try.prog 27 #[.slice A n cap] w (Gives (collR bss) (collOk bss) w) := by
  have HL := Lib.hid h
  have HLEN := Lib.hid h.1
  have hcap := h.2.1
  have hmax := h.2.2.1
  unfold maxLen at hmax
  have HF := Lib.hid hf
  clear h hf
  by_cases h60 : n ≤ 60
  · have h60d : decide (60 < (n : Int)) = false := by simp; omega
    cases hb : batchB bss.flatten with
    | false =>
      have H := Lib.hid (show collOk bss = false from by simp [collOk, hb])
      have HB := Lib.hid hb
      clear hb
      go_enter Try.func27, Try.ntmps27
      go_wp2_with fail
      refine (l2Collect_any _ _ _ _ _ HL.out HF.out).mono ?_
      rintro e w1 ⟨v, rfl, ho, hb1⟩
      obtain ⟨A1, c1, rfl, hls⟩ := ho.read
      obtain ⟨m, hm⟩ : ∃ m, bss.flatten.length = m := ⟨_, rfl⟩
      rw [hm] at hls ho ⊢
      clear hm
      have HLS := Lib.hid hls
      clear ho hls
      go_wp2_with (go_at_call 67; refine (spec_BatchValid _ _ _ _ _ HLS.out).mono ?_; rintro e w2 ⟨rfl, hb2⟩; rw [HB.out])
      go_ret2
      exact ⟨_, ret_val (by rw [H.out]; rfl), by simp only [collR, H.out]; exact own_made (Nat.le_trans hb1.size hb2.size), (by repeat (first | exact Below.refl _ _ | assumption | refine ext_alloc ?_ _ | refine Below.drew ?_ | refine below_drewN' ?_ _ | refine ext_set ?_ (by first | (simp; done) | (simp; omega) | omega) _ | refine ext_trans ?_ (by assumption)))⟩
    | true =>
      have H := Lib.hid (show collOk bss = true from by simp only [collOk, hb, Bool.and_true, decide_eq_true_eq]; rw [HLEN.out]; exact h60)
      have HB := Lib.hid hb
      clear hb
      go_enter Try.func27, Try.ntmps27
      go_wp2_with fail
      refine (l2Collect_any _ _ _ _ _ HL.out HF.out).mono ?_
      rintro e w1 ⟨v, rfl, ho, hb1⟩
      obtain ⟨A1, c1, rfl, hls⟩ := ho.read
      obtain ⟨m, hm⟩ : ∃ m, bss.flatten.length = m := ⟨_, rfl⟩
      rw [hm] at hls ho ⊢
      clear hm
      have HLS := Lib.hid hls
      have HO := Lib.hid ho
      clear ho hls
      go_wp2_with (go_at_call 67; refine (spec_BatchValid _ _ _ _ _ HLS.out).mono ?_; rintro e w2 ⟨rfl, hb2⟩; rw [HB.out])
      go_ret2
      exact ⟨_, ret_val (by rw [H.out]; rfl), by simp only [collR, H.out, if_true]; exact HO.out.ext hb2, (by repeat (first | exact Below.refl _ _ | assumption | refine ext_alloc ?_ _ | refine Below.drew ?_ | refine below_drewN' ?_ _ | refine ext_set ?_ (by first | (simp; done) | (simp; omega) | omega) _ | refine ext_trans ?_ (by assumption)))⟩
  · have h60d : decide (60 < (n : Int)) = true := by simp; omega
    have H := Lib.hid (show collOk bss = false from by simp [collOk, HLEN.out]; omega)
    go_enter Try.func27, Try.ntmps27
    go_wp2_with fail
    refine (l2Collect_any _ _ _ _ _ HL.out HF.out).mono ?_
    rintro e w1 ⟨v, rfl, ho, hb1⟩
    obtain ⟨A1, c1, rfl, hls⟩ := ho.read
    clear ho hls
    go_wp2_with fail
    go_ret2
    exact ⟨_, ret_val (by rw [H.out]; rfl), by simp only [collR, H.out]; exact own_made hb1.size, (by repeat (first | exact Below.refl _ _ | assumption | refine ext_alloc ?_ _ | refine Below.drew ?_ | refine below_drewN' ?_ _ | refine ext_set ?_ (by first | (simp; done) | (simp; omega) | omega) _ | refine ext_trans ?_ (by assumption)))⟩

set_option maxHeartbeats 2000000 in
theorem impl_CollectBins (A : Option Addr) (n cap : Nat) (bss : List (List Ltr)) (w : World) (h : LSS w A n cap bss) :
    Calls Try.prog 26 #[.slice A n cap] w (Gives (collR bss) (collOk bss) w) := by
  have HL := Lib.hid h
  have HLEN := Lib.hid h.1
  have hcap := h.2.1
  have hmax := h.2.2.1
  unfold maxLen at hmax
  clear h
  by_cases h60 : n ≤ 60
  · have h60d : decide (60 < (n : Int)) = false := by simp; omega
    go_enter Try.func26, Try.ntmps26
    go_wp2_with fail
    go_loopw [4, 12] (fun v iv wr => ∃ k : Nat, k ≤ n ∧ iv = .int .i64 k ∧ (bss.take k).flatten.length ≤ 60 ∧ Own wr w.heap.size v (bss.take k).flatten ∧ Below w.heap.size w wr) (fun _ iv _ => n - (intOf iv).toNat)
    case atStart => exact ⟨0, by omega, rfl, by simp, Own.nil _ _, (by repeat (first | exact Below.refl _ _ | assumption | refine ext_alloc ?_ _ | refine Below.drew ?_ | refine below_drewN' ?_ _ | refine ext_set ?_ (by first | (simp; done) | (simp; omega) | omega) _ | refine ext_trans ?_ (by assumption)))⟩
    case round =>
      obtain ⟨k, hk, rfl, hsm, hown, hbel⟩ := hrel
      have HO := Lib.hid hown
      obtain ⟨Av, cv, rfl, hlv⟩ := hown.read
      have HLV := Lib.hid hlv
      obtain ⟨m, hm⟩ : ∃ m, (bss.take k).flatten.length = m := ⟨_, rfl⟩
      rw [hm] at hsm HO HLV ⊢
      have HM := Lib.hid hm
      clear hown hlv hm
      by_cases hkn : k < n
      · obtain ⟨g, off, b, A', n', c', rfl, hbk, c0, hls, hnil⟩ := (HL.out.ext hbel).at_ k hkn
        have hkd : decide ((k : Int) < (n : Int)) = true := by simp; omega
        have hfk := flat_take1 bss k b hbk
        have hle := flat_le1 bss (k + 1)
        rw [hfk, List.length_append, HM.out] at hle
        have hn' : b.length = n' := hls.1
        have hc1 := hls.2.1
        have hc2 := hls.2.2.1
        unfold maxLen at hc2
        by_cases hgt : 60 < m + n'
        · have H := Lib.hid (show collOk bss = false from by
            have : batchB bss.flatten = false := batch_long _ (by omega)
            simp [collOk, this])
          have hgd : decide (60 - (m : Int) < (n' : Int)) = true := by simp; omega
          clear hls hbk hfk hle hn'
          go_wp2_with fail
          go_ret2
          exact ⟨_, ret_val (by rw [H.out]; rfl), by simp only [collR, H.out]; exact Own.nil _ _, (by repeat (first | exact Below.refl _ _ | assumption | refine ext_alloc ?_ _ | refine Below.drew ?_ | refine below_drewN' ?_ _ | refine ext_set ?_ (by first | (simp; done) | (simp; omega) | omega) _ | refine ext_trans ?_ (by assumption)))⟩
        · have hgd : decide (60 - (m : Int) < (n' : Int)) = false := by simp; omega
          obtain ⟨v2, w2, hr2, ho2, hb2, _, _⟩ := own_apps (W := w) hbel HO.out hls hnil (by rw [HM.out]; omega) 23
          have HLE := Lib.hid (show (bss.take (k + 1)).flatten.length ≤ 60 from by rw [hfk, List.length_append, HM.out]; omega)
          rw [← hfk] at ho2
          have HR2 := Lib.hid hr2
          have HO2 := Lib.hid ho2
          clear hls hbk hr2 ho2 hfk hle hn'
          go_wp2_with (at_builtin; refine wpList_append_run rfl (.tmp 22) (.tmp 23) 23 rfl _ _ v2 w2 rfl rfl (by exact HR2.out) ?_)
          go_roundw
          case rel => exact ⟨k + 1, by omega, by go_num, HLE.out, HO2.out, hb2⟩
          case measure => simp [intOf]; omega
      · have hkd : decide ((k : Int) < (n : Int)) = false := by simp; omega
        have hT : bss.take k = bss := List.take_of_length_le (by rw [HLEN.out]; omega)
        rw [hT] at HO HLV
        cases hb : batchB bss.flatten with
        | false =>
          have H := Lib.hid (show collOk bss = false from by simp [collOk, hb])
          have HB := Lib.hid hb
          clear hb hT
          go_wp2_with (go_at_call 33; refine (impl_BatchValid _ _ _ _ _ HLV.out).mono ?_; rintro e w2 ⟨rfl, hb2⟩; rw [HB.out])
          go_ret2
          exact ⟨_, ret_val (by rw [H.out]; rfl), by simp only [collR, H.out]; exact Own.nil _ _, (by repeat (first | exact Below.refl _ _ | assumption | refine ext_alloc ?_ _ | refine Below.drew ?_ | refine below_drewN' ?_ _ | refine ext_set ?_ (by first | (simp; done) | (simp; omega) | omega) _ | refine ext_trans ?_ (by assumption)))⟩
        | true =>
          have H := Lib.hid (show collOk bss = true from by simp only [collOk, hb, Bool.and_true, decide_eq_true_eq]; rw [HLEN.out]; exact h60)
          have HB := Lib.hid hb
          clear hb hT
          go_wp2_with (go_at_call 33; refine (impl_BatchValid _ _ _ _ _ HLV.out).mono ?_; rintro e w2 ⟨rfl, hb2⟩; rw [HB.out])
          go_ret2
          exact ⟨_, ret_val (by rw [H.out]; rfl), by simp only [collR, H.out, if_true]; exact HO.out.ext hb2, (by repeat (first | exact Below.refl _ _ | assumption | refine ext_alloc ?_ _ | refine Below.drew ?_ | refine below_drewN' ?_ _ | refine ext_set ?_ (by first | (simp; done) | (simp; omega) | omega) _ | refine ext_trans ?_ (by assumption)))⟩
  · have h60d : decide (60 < (n : Int)) = true := by simp; omega
    have H := Lib.hid (show collOk bss = false from by simp [collOk, HLEN.out]; omega)
    go_enter Try.func26, Try.ntmps26
    go_wp2_with fail
    go_ret2
    exact ⟨_, ret_val (by rw [H.out]; rfl), by simp only [collR, H.out]; exact Own.nil _ _, (by repeat (first | exact Below.refl _ _ | assumption | refine ext_alloc ?_ _ | refine Below.drew ?_ | refine below_drewN' ?_ _ | refine ext_set ?_ (by first | (simp; done) | (simp; omega) | omega) _ | refine ext_trans ?_ (by assumption)))⟩

/-- Letters parted by a number and joined again are the same letters. -/
theorem part_perm (f : Ltr → Nat) (ls : List Ltr) : ∀ n : Nat, List.Perm ((List.range n).map (fun k => ls.filter fun l => f l == k)).flatten (ls.filter fun l => decide (f l < n))
  | 0 => by simp
  | n + 1 => by
    rw [List.range_succ, List.map_append, List.flatten_append]
    refine (List.Perm.append_right _ (part_perm f ls n)).trans ?_
    have h := List.filter_append_perm (fun l => decide (f l < n)) (ls.filter fun l => decide (f l < n + 1))
    refine List.Perm.trans (List.Perm.of_eq ?_) h
    simp only [List.map_cons, List.map_nil, List.flatten_cons, List.flatten_nil, List.append_nil, List.filter_filter]
    congr 1
    · apply List.filter_congr; intro l _; simp; omega
    · apply List.filter_congr; intro l _; rw [Bool.eq_iff_iff]; simp; omega
/-- A pass: the bins one after the other. -/
def passL (ls : List Ltr) (d : Nat) : List Ltr := (binsL ls d).flatten
theorem passL_perm (ls : List Ltr) (d : Nat) (h : ∀ l ∈ ls, ∃ k : Nat, k < 10 ∧ dig l.2 d = 48 + k) : List.Perm (passL ls d) ls := by
  have h1 := part_perm (fun l => dig l.2 d - 48) ls 10
  have e1 : (List.range 10).map (fun k => ls.filter fun l => dig l.2 d - 48 == k) = binsL ls d := by
    unfold binsL
    apply List.map_congr_left
    intro k _
    unfold binL
    apply List.filter_congr
    intro l hl
    obtain ⟨j, hj, e⟩ := h l hl
    rw [Bool.eq_iff_iff]; simp; omega
  have e2 : (ls.filter fun l => decide (dig l.2 d - 48 < 10)) = ls := by
    apply List.filter_eq_self.2
    intro l hl
    obtain ⟨j, hj, e⟩ := h l hl
    simp; omega
  rw [e1, e2] at h1
  exact h1
theorem batch_digs {ls : List Ltr} (h : batchB ls = true) (d : Nat) (hd : d < 7) : ∀ l ∈ ls, ∃ k : Nat, k < 10 ∧ dig l.2 d = 48 + k := by
  intro l hl
  obtain ⟨k, hk⟩ := List.mem_iff_getElem?.1 hl
  exact batch_dig h hk d hd
theorem passL_batch {ls : List Ltr} (h : batchB ls = true) (d : Nat) (hd : d < 7) : batchB (passL ls d) = true := by
  rw [batchB_perm (passL_perm ls d (batch_digs h d hd))]; exact h
/-- What SortPass answers. -/
def passR (ls : List Ltr) (di : Int) : List Ltr := if binOk ls di = true then passL ls di.toNat else []
theorem binOk_parts {ls : List Ltr} {di : Int} (h : binOk ls di = true) : batchB ls = true ∧ 0 ≤ di ∧ di < 7 := by
  simp only [binOk, Bool.and_eq_true, decide_eq_true_eq] at h; exact h
theorem passR_len (ls : List Ltr) (di : Int) : (passR ls di).length ≤ ls.length := by
  unfold passR
  split
  · rename_i h
    obtain ⟨h1, h2, h3⟩ := binOk_parts h
    rw [(passL_perm ls di.toNat (batch_digs h1 _ (by omega))).length_eq]; exact Nat.le_refl _
  · exact Nat.zero_le _

set_option maxHeartbeats 1000000 in
theorem spec_SortPass (A : Option Addr) (n cap : Nat) (ls : List Ltr) (di : Int) (w : World) (h : LS w A n cap ls) :
    Calls Try.prog 37 #[.slice A n cap, .int .i64 di] w (Gives (passR ls di) (binOk ls di) w) := by
  have HL := Lib.hid h
  clear h
  cases hb : binOk ls di with
  | false =>
    have HB := Lib.hid hb
    clear hb
    go_enter Try.func37, Try.ntmps37
    go_wp2_with (go_at_call 73; refine (l2Digit_any _ _ _ _ _ _ HL.out).mono ?_; rintro e w1 ⟨rfl, hb1⟩; rw [HB.out])
    go_ret2
    exact ⟨_, rfl, by simp only [passR, HB.out]; exact own_made hb1.size, (by repeat (first | exact Below.refl _ _ | assumption | refine ext_alloc ?_ _ | refine Below.drew ?_ | refine below_drewN' ?_ _ | refine ext_set ?_ (by first | (simp; done) | (simp; omega) | omega) _ | refine ext_trans ?_ (by assumption)))⟩
  | true =>
    obtain ⟨hbb, h0, h7⟩ := binOk_parts hb
    obtain ⟨d, rfl⟩ : ∃ d : Nat, di = d := ⟨di.toNat, by omega⟩
    have hd7 : d < 7 := by omega
    have HB := Lib.hid hb
    have HBB := Lib.hid hbb
    have HF := Lib.hid (show (binsL ls d).flatten.length ≤ 4194304 from by
      have h1 := (passL_perm ls d (batch_digs hbb d hd7)).length_eq
      have h2 := batch_len hbb
      unfold passL at h1
      omega)
    clear hb hbb h0 h7
    go_enter Try.func37, Try.ntmps37
    go_wp2_with fail
    refine (l2Digit_any _ _ _ _ _ _ HL.out).mono ?_
    rintro e w1 ⟨rfl, hb1⟩
    rw [HB.out]
    go_wp2_with fail
    refine (l2Bins_any _ _ _ _ _ _ (HL.out.ext hb1) HBB.out hd7).mono ?_
    rintro e w2 ⟨v, vs, rfl, ho, hb2⟩
    obtain ⟨A2, c2, rfl, hls, _⟩ := ho.read
    have HLS := Lib.hid hls
    clear ho hls
    go_wp2_with fail
    refine (l2Collect_any _ _ _ _ _ HLS.out HF.out).mono ?_
    rintro e w3 ⟨v3, rfl, ho3, hb3⟩
    have HO := Lib.hid (ho3.mono (Nat.le_trans hb1.size hb2.size))
    clear ho3
    go_wp2_with fail
    go_ret2
    exact ⟨_, rfl, by simp only [passR, HB.out, if_true, Int.toNat_natCast]; exact HO.out, (by repeat (first | exact Below.refl _ _ | assumption | refine ext_alloc ?_ _ | refine Below.drew ?_ | refine below_drewN' ?_ _ | refine ext_set ?_ (by first | (simp; done) | (simp; omega) | omega) _ | refine ext_trans ?_ (by assumption)))⟩

set_option maxHeartbeats 1000000 in
theorem impl_SortPass (A : Option Addr) (n cap : Nat) (ls : List Ltr) (di : Int) (w : World) (h : LS w A n cap ls) :
    Calls Try.prog 36 #[.slice A n cap, .int .i64 di] w (Gives (passR ls di) (binOk ls di) w) := by
  have HL := Lib.hid h
  clear h
  cases hb : binOk ls di with
  | false =>
    have HB := Lib.hid hb
    clear hb
    go_enter Try.func36, Try.ntmps36
    go_wp2_with fail
    refine (impl_BinPass _ _ _ _ _ _ HL.out).mono ?_
    rintro e w1 ⟨v, vs, rfl, ho, hb1⟩
    obtain ⟨A2, c2, rfl, hls, _⟩ := ho.read
    clear ho hls
    rw [HB.out]
    go_wp2_with fail
    go_ret2
    exact ⟨_, rfl, by simp only [passR, HB.out]; exact Own.nil _ _, (by repeat (first | exact Below.refl _ _ | assumption | refine ext_alloc ?_ _ | refine Below.drew ?_ | refine below_drewN' ?_ _ | refine ext_set ?_ (by first | (simp; done) | (simp; omega) | omega) _ | refine ext_trans ?_ (by assumption)))⟩
  | true =>
    obtain ⟨hbb, h0, h7⟩ := binOk_parts hb
    obtain ⟨d, rfl⟩ : ∃ d : Nat, di = d := ⟨di.toNat, by omega⟩
    have hd7 : d < 7 := by omega
    have HB := Lib.hid hb
    have HR := Lib.hid (show binsR ls d = binsL ls d from by simp only [binsR, hb, if_true, Int.toNat_natCast])
    have HC := Lib.hid (show collOk (binsL ls d) = true from by
      have := passL_batch hbb d hd7
      unfold passL at this
      simp [collOk, binsL_len, this])
    have HP := Lib.hid (show collR (binsL ls d) = passR ls d from by simp only [collR, HC.out, if_true, passR, hb, Int.toNat_natCast, passL])
    clear hb hbb h0 h7
    go_enter Try.func36, Try.ntmps36
    go_wp2_with fail
    refine (impl_BinPass _ _ _ _ _ _ HL.out).mono ?_
    rintro e w1 ⟨v, vs, rfl, ho, hb1⟩
    rw [HR.out] at ho
    obtain ⟨A2, c2, rfl, hls, _⟩ := ho.read
    have HLS := Lib.hid hls
    clear ho hls
    rw [HB.out]
    go_wp2_with fail
    refine (impl_CollectBins _ _ _ _ _ HLS.out).mono ?_
    rintro e w2 ⟨v2, rfl, ho2, hb2⟩
    rw [HP.out] at ho2
    rw [HC.out]
    have HO := Lib.hid (ho2.mono hb1.size)
    clear ho2
    go_wp2_with fail
    go_ret2
    exact ⟨_, rfl, HO.out, (by repeat (first | exact Below.refl _ _ | assumption | refine ext_alloc ?_ _ | refine Below.drew ?_ | refine below_drewN' ?_ _ | refine ext_set ?_ (by first | (simp; done) | (simp; omega) | omega) _ | refine ext_trans ?_ (by assumption)))⟩

end Go.Proofs.Ytafngfmloiikoaa
