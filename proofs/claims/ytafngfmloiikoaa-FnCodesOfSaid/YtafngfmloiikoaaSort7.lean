/-
  WALKS: the library's stable sort of at most sixty letters; SortBatch of both sides. By an AI agent.
-/
import Derived.Test.YtafngfmloiikoaaSort6
import Derived.Test.YtafngfmloiikoaaStab2
namespace Go.Proofs.Ytafngfmloiikoaa
open Go.RowKit Go.Sort

theorem drop_nil' (ls : List Ltr) (k : Nat) (h : ls.length ≤ k) : ls.drop k = [] := List.drop_eq_nil_of_le h
/-- Sorted blocks of twenty. -/
def sp (ls : List Ltr) : Nat → List Ltr
  | 0 => []
  | q + 1 => sp ls q ++ stabL ((ls.drop (20 * q)).take 20)
theorem sp_len (ls : List Ltr) : ∀ q, 20 * q ≤ ls.length → (sp ls q).length = 20 * q
  | 0, _ => rfl
  | q + 1, h => by
    have ih := sp_len ls q (by omega)
    simp only [sp, List.length_append, ih, stabL_len, List.length_take, List.length_drop]
    omega
/-- The blocks of a batch, each sorted. -/
def three (ls : List Ltr) : List Ltr := stabL (ls.take 20) ++ stabL ((ls.drop 20).take 20) ++ stabL (ls.drop 40)
def two (ls : List Ltr) : List Ltr := stabL (ls.take 40) ++ stabL (ls.drop 40)
theorem stabL_nil : stabL [] = [] := rfl
theorem sp_three (ls : List Ltr) (q : Nat) (h1 : 20 * q ≤ ls.length) (h2 : ls.length < 20 * q + 20) (h60 : ls.length ≤ 60) : sp ls q ++ stabL (ls.drop (20 * q)) = three ls := by
  unfold three
  obtain rfl | rfl | rfl | rfl : q = 0 ∨ q = 1 ∨ q = 2 ∨ q = 3 := by omega
  · rw [List.take_of_length_le (l := ls) (by omega), drop_nil' ls (20) (by omega), drop_nil' ls (40) (by omega)]; simp [sp, stabL_nil]
  · rw [List.take_of_length_le (l := ls.drop 20) (by simp; omega), drop_nil' ls (40) (by omega)]; simp [sp, stabL_nil]
  · simp [sp]
  · rw [drop_nil' ls (20 * 3) (by omega)]
    simp only [sp, stabL_nil, List.append_nil, List.nil_append]
    rw [show List.take 20 (List.drop (20 * 2) ls) = ls.drop 40 from by rw [show 20 * 2 = 40 by rfl]; exact List.take_of_length_le (by simp; omega)]
    simp
theorem merge_two (ls : List Ltr) : mergeL (stabL (ls.take 20)) (stabL ((ls.drop 20).take 20)) ++ stabL (ls.drop 40) = two ls := by
  unfold two
  rw [stabL_app]
  congr 2
  have h1 : (ls.take 40).take 20 ++ (ls.take 40).drop 20 = ls.take 40 := List.take_append_drop 20 (ls.take 40)
  rw [List.take_take, List.drop_take] at h1
  exact h1
theorem merge_one (ls : List Ltr) : mergeL (stabL (ls.take 40)) (stabL (ls.drop 40)) = stabL ls := by rw [stabL_app, List.take_append_drop]
theorem three_short (ls : List Ltr) (h : ls.length ≤ 20) : three ls = stabL ls := by
  unfold three
  rw [List.take_of_length_le (l := ls) (by omega), drop_nil' ls (20) (by omega), drop_nil' ls (40) (by omega)]; simp [stabL_nil]
theorem two_short (ls : List Ltr) (h : ls.length ≤ 40) : two ls = stabL ls := by
  unfold two
  rw [List.take_of_length_le (l := ls) (by omega), drop_nil' ls (40) (by omega)]; simp [stabL_nil]

/-- The contracts at numbers. -/
theorem insertion_int (B g n cap : Nat) (X L Y : List Ltr) (a b : Int) (w : World) (h : Own w B (.slice (some ⟨g, 0, none⟩) n cap) (X ++ L ++ Y))
    (ha : (X.length : Int) = a) (hb : a + (L.length : Int) = b) (hn : n ≤ 100) :
    Calls Try.prog 97 #[.slice (some ⟨g, 0, none⟩) n cap, .int .i64 a, .int .i64 b, .func (.func 80) #[] #[]] w (Sorts B g n cap (X ++ stabL L ++ Y) w) := by
  obtain ⟨b', rfl⟩ : ∃ b' : Nat, b = b' := ⟨X.length + L.length, by omega⟩
  subst ha
  exact insertion_any B g n cap X L Y X.length b' w h rfl (by omega) hn
theorem sym_int (B g n cap : Nat) (X L R Y : List Ltr) (a m b : Int) (w : World) (h : Own w B (.slice (some ⟨g, 0, none⟩) n cap) (X ++ L ++ R ++ Y))
    (ha : (X.length : Int) = a) (hm : a + (L.length : Int) = m) (hb : m + (R.length : Int) = b) (hL : 0 < L.length) (hR : 0 < R.length) (sL : L.Pairwise leL) (sR : R.Pairwise leL) (hn : n ≤ 100) :
    Calls Try.prog 98 #[.slice (some ⟨g, 0, none⟩) n cap, .int .i64 a, .int .i64 m, .int .i64 b, .func (.func 80) #[] #[]] w (Sorts B g n cap (X ++ mergeL L R ++ Y) w) := by
  obtain ⟨m', rfl⟩ : ∃ m' : Nat, m = m' := ⟨X.length + L.length, by omega⟩
  obtain ⟨b', rfl⟩ : ∃ b' : Nat, b = b' := ⟨m' + R.length, by omega⟩
  subst ha
  exact sym_all _ B g n cap X L R Y X.length m' b' w (Nat.le_refl _) h rfl (by omega) (by omega) hL hR sL sR hn

/-- Where the second part of the sort stands. -/
def Stage (ls : List Ltr) (v : Value) (cur : List Ltr) : Prop :=
  (v = .int .i64 20 ∧ cur = three ls) ∨ (v = .int .i64 40 ∧ 20 < ls.length ∧ cur = two ls) ∨ (v = .int .i64 80 ∧ 40 < ls.length ∧ cur = stabL ls)
def Stage3 (ls : List Ltr) (a b : Value) (cur : List Ltr) : Prop :=
  (a = .int .i64 0 ∧ b = .int .i64 40 ∧ cur = three ls) ∨ (a = .int .i64 40 ∧ b = .int .i64 80 ∧ 40 ≤ ls.length ∧ cur = two ls)

set_option maxHeartbeats 16000000 in
set_option maxRecDepth 100000 in
theorem stable_any (B g n cap : Nat) (ls : List Ltr) (w : World) (h : Own w B (.slice (some ⟨g, 0, none⟩) n cap) ls) (hn : n ≤ 60) :
    Calls Try.prog 93 #[.slice (some ⟨g, 0, none⟩) n cap, .int .i64 n, .func (.func 80) #[] #[]] w (Sorts B g n cap (stabL ls) w) := by
  have HO0 := Lib.hid h
  have HLEN := Lib.hid (show ls.length = n from h.len.symm)
  clear h
  go_enter Try.func93, Try.ntmps93
  go_wp2_with fail
  go_loopw [7, 8] (fun av bv wr => ∃ a b q : Nat, av = .int .i64 a ∧ bv = .int .i64 b ∧ a = 20 * q ∧ b = a + 20 ∧ a ≤ n ∧ Own wr B (.slice (some ⟨g, 0, none⟩) n cap) (sp ls q ++ ls.drop (20 * q)) ∧ w.grownBy wr (some g)) (fun av _ _ => n - (intOf av).toNat)
  case atStart => exact ⟨0, 20, 0, rfl, rfl, rfl, rfl, Nat.zero_le _, by simpa [sp] using HO0.out, grown_refl _ _⟩
  case round =>
    obtain ⟨a, b, q, rfl, rfl, haq, hba, han, hown, hgr⟩ := hrel
    have HO := Lib.hid hown
    have HG := Lib.hid hgr
    have HAQ := Lib.hid haq
    have HBA := Lib.hid hba
    clear hown hgr haq hba HO0
    by_cases hbn : b ≤ n
    · have hbd : decide ((b : Int) ≤ (n : Int)) = true := by simp; omega
      go_wp2_with fail
      refine (insertion_int B g n cap (sp ls q) ((ls.drop (20 * q)).take 20) (ls.drop (20 * q + 20)) a b _ (by
        have := HO.out
        rw [← List.take_append_drop 20 (ls.drop (20 * q)), List.drop_drop, ← List.append_assoc] at this
        exact this) (by have := HLEN.out; have := HAQ.out; have := HBA.out; rw [sp_len ls q (by omega)]; omega) (by have := HLEN.out; have := HAQ.out; have := HBA.out; rw [List.length_take, List.length_drop]; omega) (by omega)).mono ?_
      rintro e w1 ⟨rfl, ho1, hg1⟩
      have HO1 := Lib.hid ho1
      have HG1 := Lib.hid (grown_tr HG.out hg1)
      clear ho1 hg1
      go_wp2_with fail
      go_roundw
      case rel => exact ⟨b, b + 20, q + 1, rfl, by go_num, by have := HAQ.out; have := HBA.out; omega, rfl, hbn, by have := HO1.out; rw [show 20 * (q + 1) = 20 * q + 20 by omega]; exact this, HG1.out⟩
      case measure => have := HBA.out; simp [intOf]; omega
    · have hbd : decide ((b : Int) ≤ (n : Int)) = false := by simp; omega
      have HT := Lib.hid (sp_three ls q (by have := HLEN.out; have := HAQ.out; omega) (by have := HLEN.out; have := HAQ.out; have := HBA.out; omega) (by have := HLEN.out; omega))
      go_wp2_with fail
      refine (insertion_int B g n cap (sp ls q) (ls.drop (20 * q)) [] a n _ (by simpa using HO.out) (by have := HLEN.out; have := HAQ.out; rw [sp_len ls q (by omega)]; omega) (by have := HLEN.out; have := HAQ.out; rw [List.length_drop]; omega) (by omega)).mono ?_
      rintro e w1 ⟨rfl, ho1, hg1⟩
      rw [List.append_nil, HT.out] at ho1
      have HO1 := Lib.hid ho1
      have HG1 := Lib.hid (grown_tr HG.out hg1)
      clear ho1 hg1 HO HG
      go_wp2_with fail
      go_loopw [6] (fun sv wr => ∃ cur, Stage ls sv cur ∧ Own wr B (.slice (some ⟨g, 0, none⟩) n cap) cur ∧ w.grownBy wr (some g)) (fun sv _ => 80 - (intOf sv).toNat)
      case atStart => exact ⟨three ls, .inl ⟨rfl, rfl⟩, HO1.out, HG1.out⟩
      case round =>
        clear HO1 HG1
        obtain ⟨cur, hst, hown, hgr⟩ := hrel
        have HO := Lib.hid hown
        have HG := Lib.hid hgr
        clear hown hgr
        rcases hst with ⟨rfl, rfl⟩ | ⟨rfl, h20, rfl⟩ | ⟨rfl, h40, rfl⟩
        · by_cases h20 : 20 < n
          · have hd : decide ((20 : Int) < (n : Int)) = true := by simp; omega
            go_wp2_with fail
            go_loopw [7, 8] (fun av bv wr => ∃ cur, Stage3 ls av bv cur ∧ Own wr B (.slice (some ⟨g, 0, none⟩) n cap) cur ∧ w.grownBy wr (some g)) (fun av _ _ => 80 - (intOf av).toNat)
            case atStart => exact ⟨three ls, .inl ⟨rfl, rfl, rfl⟩, HO.out, HG.out⟩
            case round =>
              clear HO HG
              obtain ⟨cur, hst, hown, hgr⟩ := hrel
              have HO := Lib.hid hown
              have HG := Lib.hid hgr
              clear hown hgr
              rcases hst with ⟨rfl, rfl, rfl⟩ | ⟨rfl, rfl, h40, rfl⟩
              · by_cases h40 : 40 ≤ n
                · have hd4 : decide ((40 : Int) ≤ (n : Int)) = true := by simp; omega
                  go_wp2_with fail
                  refine (sym_int B g n cap [] (stabL (ls.take 20)) (stabL ((ls.drop 20).take 20)) (stabL (ls.drop 40)) 0 20 40 _ (by simpa [three] using HO.out) rfl (by have := HLEN.out; rw [stabL_len, List.length_take]; omega) (by have := HLEN.out; rw [stabL_len, List.length_take, List.length_drop]; omega) (by have := HLEN.out; rw [stabL_len, List.length_take]; omega) (by have := HLEN.out; rw [stabL_len, List.length_take, List.length_drop]; omega) (stabL_sorted _) (stabL_sorted _) (by omega)).mono ?_
                  rintro e w2 ⟨rfl, ho1, hg1⟩
                  rw [List.nil_append, merge_two] at ho1
                  have HO1 := Lib.hid ho1
                  have HG1 := Lib.hid (grown_tr HG.out hg1)
                  clear ho1 hg1
                  go_wp2_with fail
                  go_roundw
                  case rel => exact ⟨two ls, .inr ⟨by first | rfl | go_num, by first | rfl | go_num, by have := HLEN.out; omega, rfl⟩, HO1.out, HG1.out⟩
                  case measure => simp [intOf]
                · have hd4 : decide ((40 : Int) ≤ (n : Int)) = false := by simp; omega
                  go_wp2_with fail
                  refine (sym_int B g n cap [] (stabL (ls.take 20)) (stabL ((ls.drop 20).take 20)) (stabL (ls.drop 40)) 0 20 n _ (by simpa [three] using HO.out) rfl (by have := HLEN.out; rw [stabL_len, List.length_take]; omega) (by have := HLEN.out; rw [stabL_len, List.length_take, List.length_drop]; omega) (by have := HLEN.out; rw [stabL_len, List.length_take]; omega) (by have := HLEN.out; rw [stabL_len, List.length_take, List.length_drop]; omega) (stabL_sorted _) (stabL_sorted _) (by omega)).mono ?_
                  rintro e w2 ⟨rfl, ho1, hg1⟩
                  rw [List.nil_append, merge_two] at ho1
                  have HO1 := Lib.hid ho1
                  have HG1 := Lib.hid (grown_tr HG.out hg1)
                  clear ho1 hg1
                  go_wp2_with fail
                  go_roundw
                  case rel => exact ⟨two ls, .inr (.inl ⟨by first | rfl | go_num, by have := HLEN.out; omega, rfl⟩), HO1.out, HG1.out⟩
                  case measure => simp [intOf]
              · have hd8 : decide ((80 : Int) ≤ (n : Int)) = false := by simp; omega
                have hd6 : decide ((60 : Int) < (n : Int)) = false := by simp; omega
                go_wp2_with fail
                go_roundw
                case rel => exact ⟨two ls, .inr (.inl ⟨by first | rfl | go_num, by have := HLEN.out; omega, rfl⟩), HO.out, HG.out⟩
                case measure => simp [intOf]
          · have hd : decide ((20 : Int) < (n : Int)) = false := by simp; omega
            have HE := Lib.hid (three_short ls (by have := HLEN.out; omega))
            go_wp2_with fail
            go_end0
            exact ⟨rfl, by rw [← HE.out]; exact HO.out, HG.out⟩
        · have h20n : 20 < n := by have := HLEN.out; omega
          clear h20
          by_cases h40 : 40 < n
          · have hd : decide ((40 : Int) < (n : Int)) = true := by simp; omega
            have hd8 : decide ((80 : Int) ≤ (n : Int)) = false := by simp; omega
            go_wp2_with fail
            go_loopw [7, 8] (fun av bv wr => av = .int .i64 0 ∧ bv = .int .i64 80 ∧ Own wr B (.slice (some ⟨g, 0, none⟩) n cap) (two ls) ∧ w.grownBy wr (some g)) (fun _ _ _ => 0)
            case atStart => exact ⟨rfl, rfl, HO.out, HG.out⟩
            case round =>
              clear HO HG
              obtain ⟨rfl, rfl, hown, hgr⟩ := hrel
              have HO := Lib.hid hown
              have HG := Lib.hid hgr
              clear hown hgr
              go_wp2_with fail
              refine (sym_int B g n cap [] (stabL (ls.take 40)) (stabL (ls.drop 40)) [] 0 40 n _ (by simpa [two] using HO.out) rfl (by have := HLEN.out; rw [stabL_len, List.length_take]; omega) (by have := HLEN.out; rw [stabL_len, List.length_drop]; omega) (by have := HLEN.out; rw [stabL_len, List.length_take]; omega) (by have := HLEN.out; rw [stabL_len, List.length_drop]; omega) (stabL_sorted _) (stabL_sorted _) (by omega)).mono ?_
              rintro e w2 ⟨rfl, ho1, hg1⟩
              rw [List.nil_append, List.append_nil, merge_one] at ho1
              have HO1 := Lib.hid ho1
              have HG1 := Lib.hid (grown_tr HG.out hg1)
              clear ho1 hg1
              go_wp2_with fail
              go_roundw
              case rel => exact ⟨stabL ls, .inr (.inr ⟨by first | rfl | go_num, by have := HLEN.out; omega, rfl⟩), HO1.out, HG1.out⟩
              case measure => simp [intOf]
          · have hd : decide ((40 : Int) < (n : Int)) = false := by simp; omega
            have HE := Lib.hid (two_short ls (by have := HLEN.out; omega))
            go_wp2_with fail
            go_end0
            exact ⟨rfl, by rw [← HE.out]; exact HO.out, HG.out⟩
        · have hd : decide ((80 : Int) < (n : Int)) = false := by simp; omega
          clear h40
          go_wp2_with fail
          go_end0
          exact ⟨rfl, HO.out, HG.out⟩

set_option maxHeartbeats 1000000 in
theorem SortStable_any (B g n cap : Nat) (ls : List Ltr) (w : World) (h : Own w B (.slice (some ⟨g, 0, none⟩) n cap) ls) (hn : n ≤ 60) :
    Calls Try.prog 79 #[.slice (some ⟨g, 0, none⟩) n cap, .func (.func 80) #[] #[]] w (Sorts B g n cap (stabL ls) w) := by
  have HO := Lib.hid h
  clear h
  go_enter Try.func79, Try.ntmps79
  go_wp2_with fail
  refine (stable_any B g n cap ls _ HO.out hn).mono ?_
  rintro e w1 ⟨rfl, ho1, hg1⟩
  have HO1 := Lib.hid ho1
  clear ho1
  go_wp2_with fail
  go_end0
  exact ⟨rfl, HO1.out, hg1⟩

set_option maxHeartbeats 1000000 in
theorem copyLetters_at (A : Option Addr) (n cap : Nat) (ls : List Ltr) (w : World) (h : LS w A n cap ls) (hnil : A = none → cap = 0) (hn : n ≤ 1048576) :
    Calls Try.prog 78 #[.slice A n cap] w fun e w' => e = .returned (.slice (some ⟨w.heap.size, 0, none⟩) n n) ∧ Own w' w.heap.size (.slice (some ⟨w.heap.size, 0, none⟩) n n) ls ∧ Below w.heap.size w w' := by
  obtain ⟨cs, hcs, hmk⟩ := make_letters n hn w
  obtain ⟨w2, hr, ho, hb⟩ := copy_new h hnil hcs
  have hr3 := hr 3
  have HO := Lib.hid ho
  clear hcs hr ho h
  go_enter Try.func78, Try.ntmps78
  go_wp2_with fail
  go_ret
  exact ⟨rfl, HO.out, hb⟩

set_option maxHeartbeats 2000000 in
theorem impl_SortBatch (A : Option Addr) (n cap : Nat) (ls : List Ltr) (w : World) (h : LS w A n cap ls) (hnil : A = none → cap = 0) :
    Calls Try.prog 42 #[.slice A n cap] w (Gives (sortR ls) (batchB ls) w) := by
  have HL := Lib.hid h
  have HLEN := Lib.hid h.1
  clear h
  cases hb : batchB ls with
  | false =>
    have HB := Lib.hid hb
    clear hb
    go_enter Try.func42, Try.ntmps42
    go_wp2_with (go_at_call 33; refine (impl_BatchValid _ _ _ _ _ HL.out).mono ?_; rintro e w1 ⟨rfl, hb1⟩; rw [HB.out])
    go_ret2
    exact ⟨_, rfl, by simp only [sortR, HB.out]; exact Own.nil _ _, (by repeat (first | exact Below.refl _ _ | assumption | refine ext_alloc ?_ _ | refine Below.drew ?_ | refine below_drewN' ?_ _ | refine ext_set ?_ (by first | (simp; done) | (simp; omega) | omega) _ | refine ext_trans ?_ (by assumption)))⟩
  | true =>
    have hn60 := batch_len hb
    rw [HLEN.out] at hn60
    have HB := Lib.hid hb
    have HNC := Lib.hid hnil
    clear hb hnil
    go_enter Try.func42, Try.ntmps42
    go_wp2_with fail
    refine (impl_BatchValid _ _ _ _ _ HL.out).mono ?_
    rintro e w1 ⟨rfl, hb1⟩
    rw [HB.out]
    go_wp2_with fail
    refine (copyLetters_at _ _ _ _ _ (HL.out.ext hb1) HNC.out (by omega)).mono ?_
    rintro e w2 ⟨rfl, ho2, hb2⟩
    have hs1 := hb1.size
    have hs2 := hb2.size
    have HO2 := Lib.hid ho2
    have HBW := Lib.hid (show Below w.heap.size w w2 from (by repeat (first | exact Below.refl _ _ | assumption | refine ext_alloc ?_ _ | refine Below.drew ?_ | refine below_drewN' ?_ _ | refine ext_set ?_ (by first | (simp; done) | (simp; omega) | omega) _ | refine ext_trans ?_ (by assumption))))
    clear ho2 hb1 hb2
    go_wp2_with fail
    refine (SortStable_any _ _ _ _ _ _ HO2.out hn60).mono ?_
    rintro e w3 ⟨rfl, ho3, hg3⟩
    have HO3 := Lib.hid (ho3.mono hs1)
    have HBW3 := Lib.hid (show Below w.heap.size w w3 from HBW.out.grown hg3 (by omega) (fun k hk => by injection hk with hk; omega))
    clear ho3 hg3
    go_wp2_with fail
    go_ret2
    exact ⟨_, rfl, by simp only [sortR, HB.out, if_true]; exact HO3.out, HBW3.out⟩


theorem ownI_lit (w : World) (B : Nat) (xs : List Int) (hB : B ≤ w.heap.size) (hl : xs.length ≤ 100) : OwnI (w.alloc (.cells (cellsI xs).toArray 3)) B (.slice (some ⟨w.heap.size, 0, none⟩) xs.length xs.length) xs := by
  have hc : (cellsI xs).length = xs.length := by simp [cellsI]
  exact ⟨by rw [hc]; omega, .inr ⟨w.heap.size, xs.length, (cellsI xs).toArray, rfl, hB, Row.made _ _ _, Nat.le_refl _, by unfold maxLen; omega, by simp [hc], by simp; exact List.take_of_length_le (by rw [hc]; exact Nat.le_refl _)⟩⟩

set_option maxHeartbeats 2000000 in
theorem spec_SortBatch (A : Option Addr) (n cap : Nat) (ls : List Ltr) (w : World) (h : LS w A n cap ls) (hnil : A = none → cap = 0) :
    Calls Try.prog 40 #[.slice A n cap] w (Gives (sortR ls) (batchB ls) w) := by
  have HL := Lib.hid h
  clear h
  cases hb : batchB ls with
  | false =>
    have HB := Lib.hid hb
    clear hb
    go_enter Try.func40, Try.ntmps40
    go_wp2_with (go_at_call 67; refine (spec_BatchValid _ _ _ _ _ HL.out).mono ?_; rintro e w1 ⟨rfl, hb1⟩; rw [HB.out])
    go_ret2
    exact ⟨_, rfl, by simp only [sortR, HB.out]; exact own_made hb1.size, (by repeat (first | exact Below.refl _ _ | assumption | refine ext_alloc ?_ _ | refine Below.drew ?_ | refine below_drewN' ?_ _ | refine ext_set ?_ (by first | (simp; done) | (simp; omega) | omega) _ | refine ext_trans ?_ (by assumption)))⟩
  | true =>
    have HB := Lib.hid hb
    have HNC := Lib.hid hnil
    have HST := Lib.hid (sortL_stab hb)
    clear hb hnil
    go_enter Try.func40, Try.ntmps40
    go_wp2_with fail
    refine (spec_BatchValid _ _ _ _ _ HL.out).mono ?_
    rintro e w1 ⟨rfl, hb1⟩
    rw [HB.out]
    go_wp2_with fail
    have HI := Lib.hid (ownI_lit w1 w1.heap.size [0, 1, 2, 3, 4, 5, 6] (Nat.le_refl _) (by decide))
    refine (l2Sort_any _ _ _ _ _ _ _ _ _ _ ((HL.out.ext hb1).ext (below_box _ _)) HNC.out HI.out HB.out (by decide) (by decide)).mono ?_
    rintro e w3 ⟨v3, rfl, ho3, hb3⟩
    rw [HST.out] at ho3
    have HO3 := Lib.hid (ho3.mono (Nat.le_trans hb1.size (below_box w1 _).size))
    clear ho3
    go_wp2_with fail
    go_ret2
    exact ⟨_, rfl, by simp only [sortR, HB.out, if_true]; exact HO3.out, (by repeat (first | exact Below.refl _ _ | assumption | refine ext_alloc ?_ _ | refine Below.drew ?_ | refine below_drewN' ?_ _ | refine ext_set ?_ (by first | (simp; done) | (simp; omega) | omega) _ | refine ext_trans ?_ (by assumption)))⟩

end Go.Proofs.Ytafngfmloiikoaa
