/-
  LETTERS of the call's own: two slices that share no memory, appending a letter. By an AI agent.
-/
import Derived.Test.YtafngfmloiikoaaLet2
import Derived.Maps.AppendAt
namespace Go.Proofs.Ytafngfmloiikoaa
open Go.RowKit

/-- Two slices of letters of the call's own that share no memory. -/
def Two (w : World) (B : Nat) (v1 : Value) (l1 : List Ltr) (v2 : Value) (l2 : List Ltr) : Prop :=
  Own w B v1 l1 ∧ Own w B v2 l2 ∧ (∀ g, v1.ownBlock = some g → v2.ownBlock ≠ some g)
theorem Two.symm {w : World} {B : Nat} {v1 v2 : Value} {l1 l2 : List Ltr} (h : Two w B v1 l1 v2 l2) : Two w B v2 l2 v1 l1 :=
  ⟨h.2.1, h.1, fun g hg he => h.2.2 g he hg⟩
theorem Own.kept {w w' : World} {B : Nat} {v : Value} {ls : List Ltr} {row : Option Nat} (h : Own w B v ls) (hg : w.grownBy w' row) (hne : ∀ g, v.ownBlock = some g → row ≠ some g) : Own w' B v ls :=
  ⟨h.1.kept hg (by cases hv : v.ownBlock with
    | none => exact .inl rfl
    | some g => exact .inr (fun e => hne g hv e.symm)), h.2⟩
theorem Two.ext {w w' : World} {B : Nat} {v1 v2 : Value} {l1 l2 : List Ltr} (h : Two w B v1 l1 v2 l2) (hb : Below w.heap.size w w') : Two w' B v1 l1 v2 l2 :=
  ⟨h.1.ext hb, h.2.1.ext hb, h.2.2⟩
theorem Own.nil (w : World) (B : Nat) : Own w B (.slice none 0 0) [] := ⟨World.ownsRow_nil _ _ _ _, fun l hl => by cases hl⟩
theorem Two.nil (w : World) (B : Nat) : Two w B (.slice none 0 0) [] (.slice none 0 0) [] := ⟨Own.nil w B, Own.nil w B, fun g hg => by simp [Value.ownBlock] at hg⟩
/-- What an append of a letter to the first of the two leaves. -/
theorem Two.app {w w' : World} {B : Nat} {v1 v2 v' : Value} {l1 l2 : List Ltr} {x : Ltr} (h : Two w B v1 l1 v2 l2) (hx : x.2.size ≤ maxLen)
    (ho : w'.ownsRow B 31 2 v' (l1.length + 1) (cellsL l1 ++ [.int .i64 x.1, .string x.2])) (hg : w.grownBy w' v1.ownBlock) (hl : v'.ownBlock = v1.ownBlock ∨ v'.ownBlock = some w.heap.size) :
    Two w' B v' (l1 ++ [x]) v2 l2 := by
  refine ⟨⟨?_, fun l hm => ?_⟩, h.2.1.kept hg (fun g hv he => h.2.2 g he hv), fun g hv he => ?_⟩
  · rw [cellsL_append, List.length_append]; exact ho
  · rcases List.mem_append.1 hm with h1 | h1
    · exact h.1.2 l h1
    · simp at h1; subst h1; exact hx
  · rcases hl with hl | hl
    · rw [hl] at hv; exact h.2.2 g hv he
    · rw [hl] at hv
      injection hv with hv
      have := (h.2.1.1.lt g he).2
      omega
theorem below_app {W w w' : World} {B : Nat} {v : Value} {ls : List Ltr} (hb : Below B W w) (ho : Own w B v ls) (hB : B ≤ w.heap.size) (hg : w.grownBy w' v.ownBlock) : Below B W w' :=
  hb.grown hg hB (fun k hk => (ho.1.lt k hk).1)
/-- A letter in a new block of its own. -/
theorem letter_new (w : World) (l : Ltr) (t : TypeId) : ∀ j u, ([.int .i64 l.1, .string l.2] : List Value)[j]? = some u → (w.alloc (.cells #[.int .i64 l.1, .string l.2] t)).cell? ((⟨w.heap.size, 0, none⟩ : Addr).add j) = some u := by
  intro j u hj
  have hr := Row.made w t #[.int .i64 l.1, .string l.2]
  rw [add_lit', hr.cell]
  simpa using hj
theorem letter_at (w : World) (l : Ltr) (t : TypeId) (g : Nat) (hg : g = w.heap.size) : ∀ j u, ([.int .i64 l.1, .string l.2] : List Value)[j]? = some u → (w.alloc (.cells #[.int .i64 l.1, .string l.2] t)).cell? ((⟨g, 0, none⟩ : Addr).add j) = some u := by
  subst hg; exact letter_new w l t
theorem letter_one (l : Ltr) : ∀ u ∈ ([.int .i64 l.1, .string l.2] : List Value), u.oneCell' = true := by
  intro u hu; simp at hu; rcases hu with rfl | rfl <;> rfl

def beginsB (c p : ByteArray) : Bool := decide (p.size ≤ c.size) && ((c.extract 0 p.size).toList == p.toList)
/-- What a prefix is. -/
def prefB (p : ByteArray) : Bool := decide (p.size ≤ 7) && allDig p.data.toList

set_option maxHeartbeats 1000000 in
theorem HasPrefix_any (c p : ByteArray) (w : World) :
    Calls Try.prog 66 #[.string c, .string p] w fun e w' => e = .returned (.bool (beginsB c p)) ∧ w = w' := by
  by_cases h : p.size ≤ c.size
  · have H := Lib.hid (show beginsB c p = ((c.extract 0 p.size).toList == p.toList) from by simp [beginsB, h])
    have hi : (p.size : Int) ≤ (c.size : Int) := by omega
    have hd : decide (p.size ≤ c.size) = true := by simpa using h
    go_enter Try.func66, Try.ntmps66
    go_wp2
    go_ret
    exact ⟨ret_bool (by rw [H.out]), rfl⟩
  · have H := Lib.hid (show beginsB c p = false from by simp [beginsB, h])
    have hd : decide (p.size ≤ c.size) = false := by simpa using h
    go_enter Try.func66, Try.ntmps66
    go_wp2
    go_ret
    exact ⟨ret_bool H.out.symm, rfl⟩

set_option maxHeartbeats 1000000 in
theorem l2Begins_any (c p : ByteArray) (w : World) :
    Calls Try.prog 69 #[.string c, .string p] w fun e w' => e = .returned (.bool (beginsB c p)) ∧ w = w' := by
  by_cases h : p.size ≤ c.size
  · have H := Lib.hid (show beginsB c p = ((c.extract 0 p.size).toList == p.toList) from by simp [beginsB, h])
    have hi : (p.size : Int) ≤ (c.size : Int) := by omega
    have hd : decide (p.size ≤ c.size) = true := by simpa using h
    go_enter Try.func69, Try.ntmps69
    go_wp2
    go_ret
    exact ⟨ret_bool (by rw [H.out]), rfl⟩
  · have H := Lib.hid (show beginsB c p = false from by simp [beginsB, h])
    have hd : decide (p.size ≤ c.size) = false := by simpa using h
    go_enter Try.func69, Try.ntmps69
    go_wp2
    go_ret
    exact ⟨ret_bool H.out.symm, rfl⟩

set_option maxHeartbeats 1000000 in
theorem impl_prefixValid (p : ByteArray) (w : World) (hp : p.size ≤ maxLen) :
    Calls Try.prog 65 #[.string p] w fun e w' => e = .returned (.bool (prefB p)) ∧ w = w' := by
  by_cases h : p.size ≤ 7
  · have H := Lib.hid (show prefB p = allDig p.data.toList from by simp [prefB, h])
    have hd : decide ((p.size : Int) ≤ 7) = true := by simp; omega
    go_enter Try.func65, Try.ntmps65
    go_wp2_with (go_at_call 88; refine (allDigits_any _ _ hp).mono ?_; rintro e w' ⟨rfl, rfl⟩)
    go_ret
    exact ⟨ret_bool H.out.symm, rfl⟩
  · have H := Lib.hid (show prefB p = false from by simp [prefB, h])
    have hd : decide ((p.size : Int) ≤ 7) = false := by simp; omega
    go_enter Try.func65, Try.ntmps65
    go_wp2_with fail
    go_ret
    exact ⟨ret_bool H.out.symm, rfl⟩

set_option maxHeartbeats 1000000 in
theorem spec_l2Prefix (p : ByteArray) (w : World) (hp : p.size ≤ maxLen) :
    Calls Try.prog 68 #[.string p] w fun e w' => e = .returned (.bool (prefB p)) ∧ w = w' := by
  cases hd : digsB p with
  | true =>
    have H := Lib.hid (show prefB p = decide ((p.size : Int) ≤ 7) from by
      simp only [digsB, Bool.and_eq_true] at hd; simp only [prefB, hd.2, Bool.and_true]; rw [Bool.eq_iff_iff]; simp; omega)
    have HD := Lib.hid hd
    clear hd
    go_enter Try.func68, Try.ntmps68
    go_wp2_with (go_at_call 92; refine (spec_DigitsValid _ _ hp).mono ?_; rintro e w' ⟨rfl, rfl⟩; rw [HD.out])
    go_ret
    exact ⟨ret_bool H.out.symm, rfl⟩
  | false =>
    have H := Lib.hid (show prefB p = false from by
      cases hh : prefB p with
      | false => rfl
      | true =>
        simp only [prefB, Bool.and_eq_true, decide_eq_true_eq] at hh
        have : digsB p = true := by simp only [digsB, hh.2, Bool.and_true, decide_eq_true_eq]; omega
        rw [this] at hd; cases hd)
    have HD := Lib.hid hd
    clear hd
    go_enter Try.func68, Try.ntmps68
    go_wp2_with (go_at_call 92; refine (spec_DigitsValid _ _ hp).mono ?_; rintro e w' ⟨rfl, rfl⟩; rw [HD.out])
    go_ret
    exact ⟨ret_bool H.out.symm, rfl⟩

/-- The letters with and without a prefix. -/
def withP (ls : List Ltr) (p : ByteArray) : List Ltr := ls.filter fun l => beginsB l.2 p
def without (ls : List Ltr) (p : ByteArray) : List Ltr := ls.filter fun l => !beginsB l.2 p
theorem withP_snoc (ls : List Ltr) (p : ByteArray) (l : Ltr) : withP (ls ++ [l]) p = withP ls p ++ if beginsB l.2 p = true then [l] else [] := by
  unfold withP; rw [List.filter_append]; cases h : beginsB l.2 p <;> simp [h]
theorem without_snoc (ls : List Ltr) (p : ByteArray) (l : Ltr) : without (ls ++ [l]) p = without ls p ++ if beginsB l.2 p = true then [] else [l] := by
  unfold without; rw [List.filter_append]; cases h : beginsB l.2 p <;> simp [h]
theorem withP_le (ls : List Ltr) (p : ByteArray) : (withP ls p).length ≤ ls.length := List.length_filter_le _ _
theorem without_le (ls : List Ltr) (p : ByteArray) : (without ls p).length ≤ ls.length := List.length_filter_le _ _
def splitOk (ls : List Ltr) (p : ByteArray) : Bool := batchB ls && prefB p
def splitA (ls : List Ltr) (p : ByteArray) : List Ltr := if splitOk ls p = true then withP ls p else []
def splitB (ls : List Ltr) (p : ByteArray) : List Ltr := if splitOk ls p = true then without ls p else []
/-- What SplitBatch answers. -/
def Splits (ls : List Ltr) (p : ByteArray) (w : World) (e : Ending) (w' : World) : Prop :=
  ∃ v1 v2, e = .returned (.tuple #[v1, v2, .bool (splitOk ls p)]) ∧ Two w' w.heap.size v1 (splitA ls p) v2 (splitB ls p) ∧ Below w.heap.size w w'

/-- Two empty slices just made. -/
theorem two_made (w : World) : Two ((w.alloc (.cells #[] 31)).alloc (.cells #[] 31)) w.heap.size (.slice (some ⟨w.heap.size, 0, none⟩) 0 0) [] (.slice (some ⟨w.heap.size + 1, 0, none⟩) 0 0) [] := by
  refine ⟨⟨(World.ownsRow_made w #[] 0 (Nat.le_refl _) (by unfold maxLen; omega) rfl).alloc _, fun l hl => by cases hl⟩, ⟨?_, fun l hl => by cases hl⟩, fun g hg he => ?_⟩
  · have h := World.ownsRow_made (base := w.heap.size) (size := 2) (e := 31) (w.alloc (.cells #[] 31)) #[] 0 (by simp) (by unfold maxLen; omega) rfl
    simpa [cellsL] using h
  · simp [Value.ownBlock] at hg he; omega

set_option maxHeartbeats 4000000 in
theorem impl_SplitBatch (A : Option Addr) (n cap : Nat) (ls : List Ltr) (p : ByteArray) (w : World) (h : LS w A n cap ls) (hp : p.size ≤ maxLen) :
    Calls Try.prog 21 #[.slice A n cap, .string p] w (Splits ls p w) := by
  have HL := Lib.hid h
  have HLEN := Lib.hid h.1
  clear h
  obtain ⟨i0, hi, hz0, hz1, hz2⟩ := info_parts info_letter
  cases hb : batchB ls with
  | false =>
    have H := Lib.hid (show splitOk ls p = false from by simp [splitOk, hb])
    have HB := Lib.hid hb
    clear hb
    go_enter Try.func21, Try.ntmps21
    go_wp2_with (go_at_call 33; refine (impl_BatchValid _ _ _ _ _ HL.out).mono ?_; rintro e w1 ⟨rfl, hb1⟩; rw [HB.out])
    go_ret3
    exact ⟨_, _, ret_val (by rw [H.out]; rfl), by simp only [splitA, splitB, H.out]; exact Two.nil _ _, (by repeat (first | exact Below.refl _ _ | assumption | refine ext_alloc ?_ _ | refine Below.drew ?_ | refine below_drewN' ?_ _ | refine ext_set ?_ (by first | (simp; done) | (simp; omega) | omega) _ | refine ext_trans ?_ (by assumption)))⟩
  | true =>
    have hn60 := (batchB_true ls).1 hb |>.1
    rw [HLEN.out] at hn60
    have HB := Lib.hid hb
    cases hpp : prefB p with
    | false =>
      have H := Lib.hid (show splitOk ls p = false from by simp [splitOk, hpp])
      have HP := Lib.hid hpp
      clear hb hpp
      go_enter Try.func21, Try.ntmps21
      go_wp2_with (first | (go_at_call 33; refine (impl_BatchValid _ _ _ _ _ HL.out).mono ?_; rintro e w1 ⟨rfl, hb1⟩; rw [HB.out]) | (go_at_call 65; refine (impl_prefixValid _ _ hp).mono ?_; rintro e w2 ⟨rfl, rfl⟩; rw [HP.out]))
      go_ret3
      exact ⟨_, _, ret_val (by rw [H.out]; rfl), by simp only [splitA, splitB, H.out]; exact Two.nil _ _, (by repeat (first | exact Below.refl _ _ | assumption | refine ext_alloc ?_ _ | refine Below.drew ?_ | refine below_drewN' ?_ _ | refine ext_set ?_ (by first | (simp; done) | (simp; omega) | omega) _ | refine ext_trans ?_ (by assumption)))⟩
    | true =>
      have H := Lib.hid (show splitOk ls p = true from by simp [splitOk, hb, hpp])
      have HP := Lib.hid hpp
      clear hb hpp
      go_enter Try.func21, Try.ntmps21
      go_wp2_with (first | (go_at_call 33; refine (impl_BatchValid _ _ _ _ _ HL.out).mono ?_; rintro e w1 ⟨rfl, hb1⟩; rw [HB.out]) | (go_at_call 65; refine (impl_prefixValid _ _ hp).mono ?_; rintro e w2 ⟨rfl, rfl⟩; rw [HP.out]))
      go_loopw [7, 8, 21] (fun v1 v2 iv wr => ∃ k : Nat, k ≤ n ∧ iv = .int .i64 k ∧ Two wr w.heap.size v1 (withP (ls.take k) p) v2 (without (ls.take k) p) ∧ Below w.heap.size w wr) (fun _ _ iv _ => n - (intOf iv).toNat)
      case atStart => exact ⟨0, by omega, rfl, by simpa [withP, without] using Two.nil _ _, (by repeat (first | exact Below.refl _ _ | assumption | refine ext_alloc ?_ _ | refine Below.drew ?_ | refine below_drewN' ?_ _ | refine ext_set ?_ (by first | (simp; done) | (simp; omega) | omega) _ | refine ext_trans ?_ (by assumption)))⟩
      case round =>
        obtain ⟨k, hk, rfl, htwo, hbel⟩ := hrel
        have HT := Lib.hid htwo
        clear htwo
        have hwl := withP_le (ls.take k) p
        have hol := without_le (ls.take k) p
        have htl := List.length_take_le k ls
        have hsize := hbel.size
        by_cases hkn : k < n
        · obtain ⟨g, off, l, rfl, hl, hlm, c0, c1⟩ := (HL.out.ext hbel).at_ k hkn
          have hkd : decide ((k : Int) < (n : Int)) = true := by simp; omega
          have HLK := Lib.hid (take_snoc' ls k l hl)
          clear hl
          cases hbg : beginsB l.2 p with
          | true =>
            have HBG := Lib.hid hbg
            clear hbg
            go_wp2_with (first | (go_at_call 66; refine (HasPrefix_any _ _ _).mono ?_; rintro e w2 ⟨rfl, rfl⟩; rw [HBG.out]) | (at_builtin; refine wpList_append_own_at _ rfl _ _ 23 rfl w.heap.size 31 i0 _ 2 24 Try.underlying23 hi hz0 hz1 hz2 rfl (by decide) _ _ _ rfl ((HT.out.1.1.alloc _).alloc _) ⟨wr.heap.size + 1, 0, none⟩ 1 1 [.int .i64 l.1, .string l.2] rfl rfl (letter_at _ l _ _ (by simp)) (letter_one l) (by unfold maxLen; omega) (by omega) (by simp; omega) ?_; intro v' w4 hown' hgrow _ hloc))
            have HT2 := Lib.hid (Two.app ((HT.out.ext (below_box _ _)).ext (below_box _ _)) hlm hown' hgrow hloc)
            have hb4 := below_app (ext_alloc (ext_alloc hbel _) _) (((HT.out.ext (below_box _ _)).ext (below_box _ _))).1 (by simp; omega) hgrow
            clear hown' hgrow hloc
            go_wp2_with fail
            go_roundw
            case rel => exact ⟨k + 1, by omega, by go_num, by rw [HLK.out, withP_snoc, without_snoc, HBG.out]; simpa using HT2.out, hb4⟩
            case measure => simp [intOf]; omega
          | false =>
            have HBG := Lib.hid hbg
            clear hbg
            go_wp2_with (first | (go_at_call 66; refine (HasPrefix_any _ _ _).mono ?_; rintro e w2 ⟨rfl, rfl⟩; rw [HBG.out]) | (at_builtin; refine wpList_append_own_at _ rfl _ _ 23 rfl w.heap.size 31 i0 _ 2 24 Try.underlying23 hi hz0 hz1 hz2 rfl (by decide) _ _ _ rfl ((HT.out.2.1.1.alloc _).alloc _) ⟨wr.heap.size + 1, 0, none⟩ 1 1 [.int .i64 l.1, .string l.2] rfl rfl (letter_at _ l _ _ (by simp)) (letter_one l) (by unfold maxLen; omega) (by omega) (by simp; omega) ?_; intro v' w4 hown' hgrow _ hloc))
            have HT2 := Lib.hid (Two.app ((HT.out.symm.ext (below_box _ _)).ext (below_box _ _)) hlm hown' hgrow hloc)
            have hb4 := below_app (ext_alloc (ext_alloc hbel _) _) (((HT.out.symm.ext (below_box _ _)).ext (below_box _ _))).1 (by simp; omega) hgrow
            clear hown' hgrow hloc
            go_wp2_with fail
            go_roundw
            case rel => exact ⟨k + 1, by omega, by go_num, by rw [HLK.out, withP_snoc, without_snoc, HBG.out]; simpa using HT2.out.symm, hb4⟩
            case measure => simp [intOf]; omega
        · have HK := Lib.hid (show ls.take k = ls from List.take_of_length_le (by rw [HLEN.out]; omega))
          have hkd : decide ((k : Int) < (n : Int)) = false := by simp; omega
          have HF := Lib.hid (show Two wr w.heap.size _ (splitA ls p) _ (splitB ls p) from by
            have hh := HT.out
            rw [HK.out] at hh
            simpa only [splitA, splitB, H.out, if_true] using hh)
          go_wp2_with fail
          go_ret3
          exact ⟨_, _, ret_val (by rw [H.out]; rfl), HF.out, hbel⟩

set_option maxHeartbeats 4000000 in
theorem spec_SplitBatch (A : Option Addr) (n cap : Nat) (ls : List Ltr) (p : ByteArray) (w : World) (h : LS w A n cap ls) (hp : p.size ≤ maxLen) :
    Calls Try.prog 22 #[.slice A n cap, .string p] w (Splits ls p w) := by
  have HL := Lib.hid h
  have HLEN := Lib.hid h.1
  clear h
  obtain ⟨i0, hi, hz0, hz1, hz2⟩ := info_parts info_letter
  cases hb : batchB ls with
  | false =>
    have H := Lib.hid (show splitOk ls p = false from by simp [splitOk, hb])
    have HB := Lib.hid hb
    clear hb
    go_enter Try.func22, Try.ntmps22
    go_wp2_with (go_at_call 67; refine (spec_BatchValid _ _ _ _ _ (by exact (HL.out.ext (ext_alloc (below_box _ _) _)))).mono ?_; rintro e w1 ⟨rfl, hb1⟩; rw [HB.out])
    go_ret3
    exact ⟨_, _, ret_val (by rw [H.out]; rfl), by simp only [splitA, splitB, H.out]; exact (two_made w).ext hb1, (by repeat (first | exact Below.refl _ _ | assumption | refine ext_alloc ?_ _ | refine Below.drew ?_ | refine below_drewN' ?_ _ | refine ext_set ?_ (by first | (simp; done) | (simp; omega) | omega) _ | refine ext_trans ?_ (by assumption)))⟩
  | true =>
    have hn60 := (batchB_true ls).1 hb |>.1
    rw [HLEN.out] at hn60
    have HB := Lib.hid hb
    cases hpp : prefB p with
    | false =>
      have H := Lib.hid (show splitOk ls p = false from by simp [splitOk, hpp])
      have HP := Lib.hid hpp
      clear hb hpp
      go_enter Try.func22, Try.ntmps22
      go_wp2_with (first | (go_at_call 67; refine (spec_BatchValid _ _ _ _ _ (by exact (HL.out.ext (ext_alloc (below_box _ _) _)))).mono ?_; rintro e w1 ⟨rfl, hb1⟩; rw [HB.out]) | (go_at_call 68; refine (spec_l2Prefix _ _ hp).mono ?_; rintro e w2 ⟨rfl, rfl⟩; rw [HP.out]))
      go_ret3
      exact ⟨_, _, ret_val (by rw [H.out]; rfl), by simp only [splitA, splitB, H.out]; exact (two_made w).ext hb1, (by repeat (first | exact Below.refl _ _ | assumption | refine ext_alloc ?_ _ | refine Below.drew ?_ | refine below_drewN' ?_ _ | refine ext_set ?_ (by first | (simp; done) | (simp; omega) | omega) _ | refine ext_trans ?_ (by assumption)))⟩
    | true =>
      have H := Lib.hid (show splitOk ls p = true from by simp [splitOk, hb, hpp])
      have HP := Lib.hid hpp
      clear hb hpp
      go_enter Try.func22, Try.ntmps22
      go_wp2_with (first | (go_at_call 67; refine (spec_BatchValid _ _ _ _ _ (by exact (HL.out.ext (ext_alloc (below_box _ _) _)))).mono ?_; rintro e w1 ⟨rfl, hb1⟩; rw [HB.out]) | (go_at_call 68; refine (spec_l2Prefix _ _ hp).mono ?_; rintro e w2 ⟨rfl, rfl⟩; rw [HP.out]))
      go_loopw [7, 8, 9] (fun v1 v2 iv wr => ∃ k : Nat, k ≤ n ∧ iv = .int .i64 k ∧ Two wr w.heap.size v1 (withP (ls.take k) p) v2 (without (ls.take k) p) ∧ Below w.heap.size w wr) (fun _ _ iv _ => n - (intOf iv).toNat)
      case atStart => exact ⟨0, by omega, rfl, by simpa [withP, without] using (two_made w).ext hb1, (by repeat (first | exact Below.refl _ _ | assumption | refine ext_alloc ?_ _ | refine Below.drew ?_ | refine below_drewN' ?_ _ | refine ext_set ?_ (by first | (simp; done) | (simp; omega) | omega) _ | refine ext_trans ?_ (by assumption)))⟩
      case round =>
        obtain ⟨k, hk, rfl, htwo, hbel⟩ := hrel
        have HT := Lib.hid htwo
        clear htwo
        have hwl := withP_le (ls.take k) p
        have hol := without_le (ls.take k) p
        have htl := List.length_take_le k ls
        have hsize := hbel.size
        by_cases hkn : k < n
        · obtain ⟨g, off, l, rfl, hl, hlm, c0, c1⟩ := (HL.out.ext hbel).at_ k hkn
          have hkd : decide ((k : Int) < (n : Int)) = true := by simp; omega
          have HLK := Lib.hid (take_snoc' ls k l hl)
          clear hl
          cases hbg : beginsB l.2 p with
          | true =>
            have HBG := Lib.hid hbg
            clear hbg
            go_wp2_with (first | (go_at_call 69; refine (l2Begins_any _ _ _).mono ?_; rintro e w2 ⟨rfl, rfl⟩; rw [HBG.out]) | (at_builtin; refine wpList_append_own_at _ rfl _ _ 23 rfl w.heap.size 31 i0 _ 2 24 Try.underlying23 hi hz0 hz1 hz2 rfl (by decide) _ _ _ rfl (HT.out.1.1.alloc _) ⟨wr.heap.size, 0, none⟩ 1 1 [.int .i64 l.1, .string l.2] rfl rfl (letter_at _ l _ _ (by simp)) (letter_one l) (by unfold maxLen; omega) (by omega) (by simp; omega) ?_; intro v' w4 hown' hgrow _ hloc))
            have HT2 := Lib.hid (Two.app (HT.out.ext (below_box _ _)) hlm hown' hgrow hloc)
            have hb4 := below_app (ext_alloc hbel _) ((HT.out.ext (below_box _ _))).1 (by simp; omega) hgrow
            clear hown' hgrow hloc
            go_wp2_with fail
            go_roundw
            case rel => exact ⟨k + 1, by omega, by go_num, by rw [HLK.out, withP_snoc, without_snoc, HBG.out]; simpa using HT2.out, hb4⟩
            case measure => simp [intOf]; omega
          | false =>
            have HBG := Lib.hid hbg
            clear hbg
            go_wp2_with (first | (go_at_call 69; refine (l2Begins_any _ _ _).mono ?_; rintro e w2 ⟨rfl, rfl⟩; rw [HBG.out]) | (at_builtin; refine wpList_append_own_at _ rfl _ _ 23 rfl w.heap.size 31 i0 _ 2 24 Try.underlying23 hi hz0 hz1 hz2 rfl (by decide) _ _ _ rfl (HT.out.2.1.1.alloc _) ⟨wr.heap.size, 0, none⟩ 1 1 [.int .i64 l.1, .string l.2] rfl rfl (letter_at _ l _ _ (by simp)) (letter_one l) (by unfold maxLen; omega) (by omega) (by simp; omega) ?_; intro v' w4 hown' hgrow _ hloc))
            have HT2 := Lib.hid (Two.app (HT.out.symm.ext (below_box _ _)) hlm hown' hgrow hloc)
            have hb4 := below_app (ext_alloc hbel _) ((HT.out.symm.ext (below_box _ _))).1 (by simp; omega) hgrow
            clear hown' hgrow hloc
            go_wp2_with fail
            go_roundw
            case rel => exact ⟨k + 1, by omega, by go_num, by rw [HLK.out, withP_snoc, without_snoc, HBG.out]; simpa using HT2.out.symm, hb4⟩
            case measure => simp [intOf]; omega
        · have HK := Lib.hid (show ls.take k = ls from List.take_of_length_le (by rw [HLEN.out]; omega))
          have hkd : decide ((k : Int) < (n : Int)) = false := by simp; omega
          have HF := Lib.hid (show Two wr w.heap.size _ (splitA ls p) _ (splitB ls p) from by
            have hh := HT.out
            rw [HK.out] at hh
            simpa only [splitA, splitB, H.out, if_true] using hh)
          go_wp2_with fail
          go_ret3
          exact ⟨_, _, ret_val (by rw [H.out]; rfl), HF.out, hbel⟩

end Go.Proofs.Ytafngfmloiikoaa
