/-
  LETTERS in memory: slices of letters that read as lists; what BatchValid answers. By an AI agent.
-/
import Derived.Test.YtafngfmloiikoaaDigits
import Derived.Deep.QuietTactic
import Derived.BigQuiet
import Derived.Deep.RegionHeld3
import Derived.OwnWalk
namespace Go.Proofs.Ytafngfmloiikoaa
open Go.RowKit

/-- A letter: its number and its code. -/
abbrev Ltr := Int × ByteArray
abbrev vL (l : Ltr) : Value := .agg #[.int .i64 l.1, .string l.2]
/-- A slice of letters that reads as a list. -/
def LS (w : World) (A : Option Addr) (n cap : Nat) (ls : List Ltr) : Prop :=
  ls.length = n ∧ n ≤ cap ∧ cap ≤ maxLen ∧ (∀ l ∈ ls, l.2.size ≤ maxLen) ∧
  (0 < n → ∃ g off : Nat, A = some ⟨g, off, none⟩ ∧ ∀ i (h : i < ls.length), w.cell? ⟨g, off + i * 2, none⟩ = some (.int .i64 ls[i].1) ∧ w.cell? ⟨g, off + i * 2 + 1, none⟩ = some (.string ls[i].2))
theorem LS.ext {w w' : World} {A : Option Addr} {n cap : Nat} {ls : List Ltr} (h : LS w A n cap ls) (hb : Below w.heap.size w w') : LS w' A n cap ls := by
  obtain ⟨h1, h2, h3, h4, h5⟩ := h
  refine ⟨h1, h2, h3, h4, fun h0 => ?_⟩
  obtain ⟨g, off, ha, hc⟩ := h5 h0
  exact ⟨g, off, ha, fun i hi => ⟨cell_later hb (hc i hi).1, cell_later hb (hc i hi).2⟩⟩
/-- What the k-th letter gives a walk. -/
theorem LS.at_ {w : World} {A : Option Addr} {n cap : Nat} {ls : List Ltr} (h : LS w A n cap ls) (k : Nat) (hk : k < n) :
    ∃ (g off : Nat) (l : Ltr), A = some ⟨g, off, none⟩ ∧ ls[k]? = some l ∧ l.2.size ≤ maxLen ∧ w.cell? ⟨g, off + k * 2, none⟩ = some (.int .i64 l.1) ∧ w.cell? ⟨g, off + k * 2 + 1, none⟩ = some (.string l.2) := by
  obtain ⟨h1, h2, h3, h4, h5⟩ := h
  obtain ⟨g, off, ha, hc⟩ := h5 (by omega)
  have hk' : k < ls.length := by omega
  exact ⟨g, off, ls[k], ha, List.getElem?_eq_getElem hk', h4 _ (List.getElem_mem hk'), (hc k hk').1, (hc k hk').2⟩

def okL (l : Ltr) : Bool := decide (1 ≤ l.1) && decide (l.1 ≤ 9999) && codeB l.2
/-- What BatchValid answers. -/
def batchB (ls : List Ltr) : Bool := decide (ls.length ≤ 60) && ls.all okL && decide ((ls.map Prod.fst).Nodup)
theorem batchB_true (ls : List Ltr) : batchB ls = true ↔ ls.length ≤ 60 ∧ (∀ l ∈ ls, okL l = true) ∧ (ls.map Prod.fst).Nodup := by
  simp [batchB, and_assoc]
/-- The first k letters are well. -/
def pre (ls : List Ltr) (k : Nat) : Prop := (∀ l ∈ ls.take k, okL l = true) ∧ ((ls.take k).map Prod.fst).Nodup
theorem take_snoc' {α : Type} (ls : List α) (k : Nat) (l : α) (h : ls[k]? = some l) : ls.take (k + 1) = ls.take k ++ [l] := by
  rw [List.take_add_one, h]; rfl
theorem pre_succ (ls : List Ltr) (k : Nat) (l : Ltr) (h : ls[k]? = some l) (hp : pre ls k) (ho : okL l = true) (hn : ∀ j : Nat, j < k → ∀ m : Ltr, ls[j]? = some m → m.1 ≠ l.1) : pre ls (k + 1) := by
  unfold pre
  rw [take_snoc' ls k l h]
  refine ⟨fun m hm => ?_, ?_⟩
  · rcases List.mem_append.1 hm with h1 | h1
    · exact hp.1 m h1
    · simp at h1; subst h1; exact ho
  · rw [List.map_append, List.nodup_append]
    refine ⟨hp.2, by simp, ?_⟩
    intro a ha b hb
    simp at hb; subst hb
    obtain ⟨m, hm, rfl⟩ := List.mem_map.1 ha
    obtain ⟨j, hj, hje⟩ := List.mem_take_iff_getElem.1 hm
    exact hn j (by omega) m (by rw [List.getElem?_eq_getElem (by omega), hje])
theorem pre_bad (ls : List Ltr) (k : Nat) (l : Ltr) (h : ls[k]? = some l) (ho : okL l = false) : batchB ls = false := by
  cases hb : batchB ls with
  | false => rfl
  | true =>
    have := ((batchB_true ls).1 hb).2.1 l (List.mem_of_getElem? h)
    rw [this] at ho; cases ho
theorem pre_twice (ls : List Ltr) (j k : Nat) (m l : Ltr) (hj : ls[j]? = some m) (h : ls[k]? = some l) (hjk : j < k) (he : m.1 = l.1) : batchB ls = false := by
  cases hb : batchB ls with
  | false => rfl
  | true =>
    have hn := ((batchB_true ls).1 hb).2.2
    have h1 : (ls.map Prod.fst)[j]? = some m.1 := by rw [List.getElem?_map, hj]; rfl
    have h2 : (ls.map Prod.fst)[k]? = some l.1 := by rw [List.getElem?_map, h]; rfl
    obtain ⟨a1, b1⟩ := List.getElem?_eq_some_iff.1 h1
    obtain ⟨a2, b2⟩ := List.getElem?_eq_some_iff.1 h2
    have hne := List.pairwise_iff_getElem.1 hn j k a1 a2 hjk
    exact absurd (by rw [b1, b2, he]) hne
theorem pre_all (ls : List Ltr) (k : Nat) (hk : ls.length ≤ k) (hp : pre ls k) (h60 : ls.length ≤ 60) : batchB ls = true := by
  unfold pre at hp
  rw [List.take_of_length_le hk] at hp
  exact (batchB_true ls).2 ⟨h60, hp.1, hp.2⟩
theorem batch_long (ls : List Ltr) (h : 60 < ls.length) : batchB ls = false := by
  simp [batchB]; omega

set_option maxHeartbeats 4000000 in
theorem impl_BatchValid (A : Option Addr) (n cap : Nat) (ls : List Ltr) (w : World) (h : LS w A n cap ls) :
    Calls Try.prog 33 #[.slice A n cap] w fun e w' => e = .returned (.bool (batchB ls)) ∧ Below w.heap.size w w' := by
  have HL := Lib.hid h
  have hlen := h.1
  have HLEN := Lib.hid hlen
  have hcap := h.2.1
  have hmax := h.2.2.1
  unfold maxLen at hmax
  clear h hlen
  by_cases h60 : n ≤ 60
  · have h60d : decide (60 < (n : Int)) = false := by simp; omega
    go_enter Try.func33, Try.ntmps33
    go_wp2_with fail
    go_loopw [12] (fun iv wr => ∃ k : Nat, k ≤ n ∧ iv = .int .i64 k ∧ pre ls k ∧ Below w.heap.size w wr) (fun iv _ => n - (intOf iv).toNat)
    case atStart => exact ⟨0, by omega, rfl, ⟨fun l hl => by simp at hl, by simp⟩, Below.refl _ _⟩
    case round =>
      obtain ⟨k, hk, rfl, hpre, hbel⟩ := hrel
      obtain ⟨wo, rfl⟩ : ∃ wo : World, wo = wr := ⟨_, rfl⟩
      have HP := Lib.hid hpre
      clear hpre
      by_cases hkn : k < n
      · obtain ⟨g, off, l, rfl, hl, hlm, c0, c1⟩ := (HL.out.ext hbel).at_ k hkn
        have HLK := Lib.hid hl
        clear hl
        have hkd : decide ((k : Int) < (n : Int)) = true := by simp; omega
        cases hok : okL l with
        | false =>
          have HB := Lib.hid (pre_bad ls k l HLK.out hok)
          have hok2 : l.1 < 1 ∨ 9999 < l.1 ∨ codeB l.2 = false := by
            simp only [okL, Bool.and_eq_false_iff, decide_eq_false_iff_not] at hok
            rcases hok with (h | h) | h
            · exact .inl (by omega)
            · exact .inr (.inl (by omega))
            · exact .inr (.inr h)
          clear hok
          by_cases h1 : l.1 < 1
          · go_wp2_with fail
            go_ret
            exact ⟨ret_bool HB.out.symm, (by repeat (first | exact Below.refl _ _ | assumption | refine ext_alloc ?_ _ | refine Below.drew ?_ | refine below_drewN' ?_ _ | refine ext_set ?_ (by first | (simp; done) | (simp; omega) | omega) _ | refine ext_trans ?_ (by assumption)))⟩
          · by_cases h2 : 9999 < l.1
            · go_wp2_with fail
              go_ret
              exact ⟨ret_bool HB.out.symm, (by repeat (first | exact Below.refl _ _ | assumption | refine ext_alloc ?_ _ | refine Below.drew ?_ | refine below_drewN' ?_ _ | refine ext_set ?_ (by first | (simp; done) | (simp; omega) | omega) _ | refine ext_trans ?_ (by assumption)))⟩
            · have HCB := Lib.hid (show codeB l.2 = false from by rcases hok2 with h | h | h; (omega); (omega); exact h)
              clear hok2
              go_wp2_with (go_at_call 72; refine (impl_CodeValid _ _ hlm).mono ?_; rintro e w2 ⟨rfl, rfl⟩; rw [HCB.out])
              go_ret
              exact ⟨ret_bool HB.out.symm, (by repeat (first | exact Below.refl _ _ | assumption | refine ext_alloc ?_ _ | refine Below.drew ?_ | refine below_drewN' ?_ _ | refine ext_set ?_ (by first | (simp; done) | (simp; omega) | omega) _ | refine ext_trans ?_ (by assumption)))⟩
        | true =>
          have HOK := Lib.hid hok
          have hok2 : 1 ≤ l.1 ∧ l.1 ≤ 9999 ∧ codeB l.2 = true := by
            simp only [okL, Bool.and_eq_true, decide_eq_true_eq] at hok; exact ⟨hok.1.1, hok.1.2, hok.2⟩
          obtain ⟨o1, o2, o3⟩ := hok2
          have HCB := Lib.hid o3
          have hd1 : decide (l.1 < 1) = false := by simp; omega
          have hd2 : decide (9999 < l.1) = false := by simp; omega
          clear hok o3
          have hcapk : (k : Int) ≤ (cap : Int) := by omega
          go_wp2_with (go_at_call 72; refine (impl_CodeValid _ _ hlm).mono ?_; rintro e w2 ⟨rfl, rfl⟩; rw [HCB.out])
          clear c0 c1
          go_loopw [35] (fun jv wr => ∃ j : Nat, j ≤ k ∧ jv = .int .i64 j ∧ (∀ i : Nat, i < j → ∀ m : Ltr, ls[i]? = some m → m.1 ≠ l.1) ∧ Below w.heap.size w wr ∧ Row wr wo.heap.size 31 #[.int .i64 l.1, .string l.2]) (fun jv _ => k - (intOf jv).toNat)
          case atStart => exact ⟨0, by omega, rfl, fun i hi => by omega, (by repeat (first | exact Below.refl _ _ | assumption | refine ext_alloc ?_ _ | refine Below.drew ?_ | refine below_drewN' ?_ _ | refine ext_set ?_ (by first | (simp; done) | (simp; omega) | omega) _ | refine ext_trans ?_ (by assumption))), Row.made _ _ _⟩
          case round =>
            obtain ⟨j, hj, rfl, hdif, hbi, hrow⟩ := hrel
            have HDF := Lib.hid hdif
            have HR := Lib.hid hrow
            have b0 : wr.cell? ⟨wo.heap.size, 0, none⟩ = some (.int .i64 l.1) := hrow.cell 0
            have hwlt := hrow.lt
            clear hdif hrow
            by_cases hjk : j < k
            · obtain ⟨g', off', m, hgo, hm, hmm, d0, d1⟩ := (HL.out.ext hbi).at_ j (by omega)
              injection hgo with hgo
              injection hgo with hg1 hg2
              subst hg1 hg2
              have HM := Lib.hid hm
              have hjd : decide ((j : Int) < (k : Int)) = true := by simp; omega
              clear hm
              by_cases he : m.1 = l.1
              · have HB := Lib.hid (pre_twice ls j k m l HM.out HLK.out hjk he)
                have heq : (m.1 == l.1) = true := by simp [he]
                clear he
                go_wp2_with fail
                go_ret
                exact ⟨ret_bool HB.out.symm, (by repeat (first | exact Below.refl _ _ | assumption | refine ext_alloc ?_ _ | refine Below.drew ?_ | refine below_drewN' ?_ _ | refine ext_set ?_ (by first | (simp; done) | (simp; omega) | omega) _ | refine ext_trans ?_ (by assumption)))⟩
              · have heq : (m.1 == l.1) = false := by simpa using he
                have HE := Lib.hid he
                clear he
                go_wp2_with fail
                go_roundw
                case rel =>
                  refine ⟨j + 1, by omega, by go_num, fun i hi m' hm' => ?_, (by repeat (first | exact Below.refl _ _ | assumption | refine ext_alloc ?_ _ | refine Below.drew ?_ | refine below_drewN' ?_ _ | refine ext_set ?_ (by first | (simp; done) | (simp; omega) | omega) _ | refine ext_trans ?_ (by assumption))), HR.out.stay _⟩
                  by_cases e : i = j
                  · subst e
                    rw [HM.out] at hm'
                    injection hm' with hm'
                    rw [← hm']; exact HE.out
                  · exact HDF.out i (by omega) m' hm'
                case measure => simp [intOf]; omega
            · have hjd : decide ((j : Int) < (k : Int)) = false := by simp; omega
              have HPS := Lib.hid (pre_succ ls k l HLK.out HP.out HOK.out (fun i hi m hm => HDF.out i (by omega) m hm))
              go_wp2_with fail
              go_roundw
              case rel => exact ⟨k + 1, by omega, by go_num, HPS.out, (by repeat (first | exact Below.refl _ _ | assumption | refine ext_alloc ?_ _ | refine Below.drew ?_ | refine below_drewN' ?_ _ | refine ext_set ?_ (by first | (simp; done) | (simp; omega) | omega) _ | refine ext_trans ?_ (by assumption)))⟩
              case measure => simp [intOf]; omega
      · have hkd : decide ((k : Int) < (n : Int)) = false := by simp; omega
        have HB := Lib.hid (pre_all ls k (by rw [HLEN.out]; omega) HP.out (by rw [HLEN.out]; exact h60))
        go_wp2_with fail
        go_ret
        exact ⟨ret_bool HB.out.symm, hbel⟩
  · have HB := Lib.hid (batch_long ls (by rw [HLEN.out]; omega))
    go_enter Try.func33, Try.ntmps33
    go_wp2_with fail
    go_ret
    exact ⟨ret_bool HB.out.symm, (by repeat (first | exact Below.refl _ _ | assumption | refine ext_alloc ?_ _ | refine Below.drew ?_ | refine below_drewN' ?_ _ | refine ext_set ?_ (by first | (simp; done) | (simp; omega) | omega) _ | refine ext_trans ?_ (by assumption)))⟩

set_option maxHeartbeats 400000 in
theorem l1In_any (n lo hi : Int) (w : World) :
    Calls Try.prog 91 #[.int .i64 n, .int .i64 lo, .int .i64 hi] w fun e w' => e = .returned (.bool (decide (lo ≤ n) && decide (n ≤ hi))) ∧ w = w' := by
  by_cases h1 : lo ≤ n
  · have h1d : decide (lo ≤ n) = true := by simpa using h1
    go_enter Try.func91, Try.ntmps91
    go_wp2
    go_ret
    exact ⟨ret_bool (by simp [h1]), rfl⟩
  · have h1d : decide (lo ≤ n) = false := by simpa using h1
    go_enter Try.func91, Try.ntmps91
    go_wp2
    go_ret
    exact ⟨ret_bool (by simp), rfl⟩

set_option maxHeartbeats 4000000 in
theorem spec_BatchValid (A : Option Addr) (n cap : Nat) (ls : List Ltr) (w : World) (h : LS w A n cap ls) :
    Calls Try.prog 67 #[.slice A n cap] w fun e w' => e = .returned (.bool (batchB ls)) ∧ Below w.heap.size w w' := by
  have HL := Lib.hid h
  have hlen := h.1
  have HLEN := Lib.hid hlen
  have hcap := h.2.1
  have hmax := h.2.2.1
  unfold maxLen at hmax
  clear h hlen
  go_enter Try.func67, Try.ntmps67
  go_wp2_with fail
  go_loopw [3] (fun iv wr => ∃ k : Nat, k ≤ n ∧ iv = .int .i64 k ∧ pre ls k ∧ Below w.heap.size w wr) (fun iv _ => n - (intOf iv).toNat)
  case atStart => exact ⟨0, by omega, rfl, ⟨fun l hl => by simp at hl, by simp⟩, Below.refl _ _⟩
  case round =>
    obtain ⟨k, hk, rfl, hpre, hbel⟩ := hrel
    obtain ⟨wo, rfl⟩ : ∃ wo : World, wo = wr := ⟨_, rfl⟩
    have HP := Lib.hid hpre
    clear hpre
    by_cases hkn : k < n
    · obtain ⟨g, off, l, rfl, hl, hlm, c0, c1⟩ := (HL.out.ext hbel).at_ k hkn
      have HLK := Lib.hid hl
      clear hl
      have hkd : decide ((k : Int) < (n : Int)) = true := by simp; omega
      cases hcb : codeB l.2 with
      | false =>
        have HB := Lib.hid (pre_bad ls k l HLK.out (by simp [okL, hcb]))
        have HCB := Lib.hid hcb
        clear hcb
        go_wp2_with (go_at_call 90; refine (spec_CodeValid _ _ hlm).mono ?_; rintro e w2 ⟨rfl, rfl⟩; rw [HCB.out])
        go_ret
        exact ⟨ret_bool HB.out.symm, (by repeat (first | exact Below.refl _ _ | assumption | refine ext_alloc ?_ _ | refine Below.drew ?_ | refine below_drewN' ?_ _ | refine ext_set ?_ (by first | (simp; done) | (simp; omega) | omega) _ | refine ext_trans ?_ (by assumption)))⟩
      | true =>
        have HCB := Lib.hid hcb
        cases hin : (decide (1 ≤ l.1) && decide (l.1 ≤ 9999)) with
        | false =>
          have HB := Lib.hid (pre_bad ls k l HLK.out (by simp only [okL, hin, Bool.false_and]))
          have HIN := Lib.hid hin
          clear hcb hin
          go_wp2_with (first | (go_at_call 90; refine (spec_CodeValid _ _ hlm).mono ?_; rintro e w2 ⟨rfl, rfl⟩; rw [HCB.out]) | (go_at_call 91; refine (l1In_any _ _ _ _).mono ?_; rintro e w2 ⟨rfl, rfl⟩; rw [HIN.out]))
          go_ret
          exact ⟨ret_bool HB.out.symm, (by repeat (first | exact Below.refl _ _ | assumption | refine ext_alloc ?_ _ | refine Below.drew ?_ | refine below_drewN' ?_ _ | refine ext_set ?_ (by first | (simp; done) | (simp; omega) | omega) _ | refine ext_trans ?_ (by assumption)))⟩
        | true =>
          have HIN := Lib.hid hin
          have HOK := Lib.hid (show okL l = true from by simp only [okL, hin, hcb, Bool.true_and])
          clear hcb hin
          go_wp2_with (first | (go_at_call 90; refine (spec_CodeValid _ _ hlm).mono ?_; rintro e w2 ⟨rfl, rfl⟩; rw [HCB.out]) | (go_at_call 91; refine (l1In_any _ _ _ _).mono ?_; rintro e w2 ⟨rfl, rfl⟩; rw [HIN.out]))
          clear c0 c1
          go_loopw [4] (fun jv wr => ∃ j : Nat, j ≤ k ∧ jv = .int .i64 j ∧ (∀ i : Nat, i < j → ∀ m : Ltr, ls[i]? = some m → m.1 ≠ l.1) ∧ Below w.heap.size w wr) (fun jv _ => k - (intOf jv).toNat)
          case atStart => exact ⟨0, by omega, rfl, fun i hi => by omega, (by repeat (first | exact Below.refl _ _ | assumption | refine ext_alloc ?_ _ | refine Below.drew ?_ | refine below_drewN' ?_ _ | refine ext_set ?_ (by first | (simp; done) | (simp; omega) | omega) _ | refine ext_trans ?_ (by assumption)))⟩
          case round =>
            obtain ⟨j, hj, rfl, hdif, hbi⟩ := hrel
            have HDF := Lib.hid hdif
            clear hdif
            by_cases hjk : j < k
            · obtain ⟨g', off', m, hgo, hm, hmm, d0, d1⟩ := (HL.out.ext hbi).at_ j (by omega)
              injection hgo with hgo
              injection hgo with hg1 hg2
              subst hg1 hg2
              obtain ⟨g', off', l', hgo, hl', _, c0, c1⟩ := (HL.out.ext hbi).at_ k hkn
              injection hgo with hgo
              injection hgo with hg1 hg2
              subst hg1 hg2
              obtain rfl : l' = l := by rw [HLK.out] at hl'; injection hl' with hl'; exact hl'.symm
              have HM := Lib.hid hm
              have hjd : decide ((j : Int) < (k : Int)) = true := by simp; omega
              have hj1 : (j : Int) < (n : Int) := by omega
              have hk1 : (k : Int) < (n : Int) := by omega
              clear hm hl'
              by_cases he : m.1 = l'.1
              · have HB := Lib.hid (pre_twice ls j k m l' HM.out HLK.out hjk he)
                have heq : (m.1 == l'.1) = true := by simp [he]
                clear he
                go_wp2_with fail
                go_quiet (fail)
                go_wp2_with fail
                go_ret
                exact ⟨ret_bool HB.out.symm, (by repeat (first | exact Below.refl _ _ | assumption | refine ext_alloc ?_ _ | refine Below.drew ?_ | refine below_drewN' ?_ _ | refine ext_set ?_ (by first | (simp; done) | (simp; omega) | omega) _ | refine ext_trans ?_ (by assumption)))⟩
              · have heq : (m.1 == l'.1) = false := by simpa using he
                have HE := Lib.hid he
                clear he
                go_wp2_with fail
                go_quiet (fail)
                go_wp2_with fail
                go_roundw
                case rel =>
                  refine ⟨j + 1, by omega, by go_num, fun i hi m' hm' => ?_, (by repeat (first | exact Below.refl _ _ | assumption | refine ext_alloc ?_ _ | refine Below.drew ?_ | refine below_drewN' ?_ _ | refine ext_set ?_ (by first | (simp; done) | (simp; omega) | omega) _ | refine ext_trans ?_ (by assumption)))⟩
                  by_cases e : i = j
                  · subst e
                    rw [HM.out] at hm'
                    injection hm' with hm'
                    rw [← hm']; exact HE.out
                  · exact HDF.out i (by omega) m' hm'
                case measure => simp [intOf]; omega
            · have hjd : decide ((j : Int) < (k : Int)) = false := by simp; omega
              have HPS := Lib.hid (pre_succ ls k l HLK.out HP.out HOK.out (fun i hi m hm => HDF.out i (by omega) m hm))
              go_wp2_with fail
              go_roundw
              case rel => exact ⟨k + 1, by omega, by go_num, HPS.out, (by repeat (first | exact Below.refl _ _ | assumption | refine ext_alloc ?_ _ | refine Below.drew ?_ | refine below_drewN' ?_ _ | refine ext_set ?_ (by first | (simp; done) | (simp; omega) | omega) _ | refine ext_trans ?_ (by assumption)))⟩
              case measure => simp [intOf]; omega
    · have hkd : decide ((k : Int) < (n : Int)) = false := by simp; omega
      by_cases h60 : n ≤ 60
      · have HB := Lib.hid (pre_all ls k (by rw [HLEN.out]; omega) HP.out (by rw [HLEN.out]; exact h60))
        go_wp2_with fail
        go_ret
        exact ⟨ret_bool (by rw [HB.out]; simp; omega), hbel⟩
      · have HB := Lib.hid (batch_long ls (by rw [HLEN.out]; omega))
        go_wp2_with fail
        go_ret
        exact ⟨ret_bool (by rw [HB.out]; simp; omega), hbel⟩

end Go.Proofs.Ytafngfmloiikoaa
