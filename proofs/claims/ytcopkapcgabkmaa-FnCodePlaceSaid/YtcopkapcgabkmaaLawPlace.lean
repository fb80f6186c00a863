/-
  WALKS: the laws FnPlaceCode and FnCodePlace. By an AI agent.
-/
import Derived.Test.YtcopkapcgabkmaaDrawP
namespace Go.Proofs.Ytcopkapcgabkmaa
open Go.RowKit

theorem num_pad3 (a : Int) (h0 : 0 ≤ a) (h9 : a ≤ 999) : numD (padL 3 a) = a := by
  have e : padL 3 a = [dgB (a / 10 / 10 % 10), dgB (a / 10 % 10), dgB (a % 10)] := by simp [padL]
  have x := dgB_val (a / 10 / 10 % 10) (by omega) (by omega)
  have y := dgB_val (a / 10 % 10) (by omega) (by omega)
  have z := dgB_val (a % 10) (by omega) (by omega)
  rw [e]; simp [numD]; omega
theorem num_pad2 (a : Int) (h0 : 0 ≤ a) (h9 : a ≤ 99) : numD (padL 2 a) = a := by
  have e : padL 2 a = [dgB (a / 10 % 10), dgB (a % 10)] := by simp [padL]
  have y := dgB_val (a / 10 % 10) (by omega) (by omega)
  have z := dgB_val (a % 10) (by omega) (by omega)
  rw [e]; simp [numD]; omega
theorem codeL_len (a b c : Int) : (codeL a b c).length = 7 := by simp [codeL, padL_length]
/-- A place is that of its code. -/
theorem place_back (a b c : Int) (h : placeB a b c = true) : placeV (bs (codeL a b c)) = .tuple #[vPlace a b c, .bool true] ∧ codeB (bs (codeL a b c)) = true := by
  obtain ⟨a0, a9, b0, b9, c0, c9⟩ := (placeB_true a b c).1 h
  have hc : codeB (bs (codeL a b c)) = true := by
    simp [codeB, bs_size, codeL_len, bs_list]; simp [codeL, allDig_append, padL_digits]
  refine ⟨?_, hc⟩
  have e1 : areaOf (bs (codeL a b c)) = a := by
    unfold areaOf; rw [bs_list]
    rw [show (codeL a b c).take 3 = padL 3 a by simp [codeL, padL_length]]
    exact num_pad3 a a0 a9
  have e2 : walkOf (bs (codeL a b c)) = b := by
    unfold walkOf; rw [bs_list]
    rw [show ((codeL a b c).drop 3).take 2 = padL 2 b by simp [codeL, padL_length]]
    exact num_pad2 b b0 b9
  have e3 : pointOf (bs (codeL a b c)) = c := by
    unfold pointOf; rw [bs_list, bs_size, codeL_len]
    rw [show ((codeL a b c).drop 5).take (7 - 5) = padL 2 c by simp [codeL, padL_length, List.drop_append]; rw [List.drop_eq_nil_of_le (by rw [padL_length]; omega)]; simp [List.take_of_length_le, padL_length]]
    exact num_pad2 c c0 c9
  simp only [placeV, hc, if_true, e1, e2, e3]
theorem formS_list (a b c : Int) (h : placeB a b c = true) : (formS a b c).data.toList = padL 3 a ++ [45] ++ padL 2 b ++ [45] ++ padL 2 c := by
  rw [formS, if_pos h, bs_list]; rfl
theorem pad3_form (a : Int) : ∃ x y z, padL 3 a = [x, y, z] := ⟨_, _, _, by simp [padL]; exact ⟨rfl, rfl, rfl⟩⟩
theorem pad2_form (a : Int) : ∃ y z, padL 2 a = [y, z] := ⟨_, _, by simp [padL]; exact ⟨rfl, rfl⟩⟩
/-- A place is parsed from its text. -/
theorem parse_back (a b c : Int) (h : placeB a b c = true) : parseV (formS a b c) = .tuple #[vPlace a b c, .bool true] ∧ (formS a b c).size = 9 := by
  have hl := formS_list a b c h
  obtain ⟨hp, hc⟩ := place_back a b c h
  obtain ⟨x1, x2, x3, ea⟩ := pad3_form a
  obtain ⟨y1, y2, eb⟩ := pad2_form b
  obtain ⟨z1, z2, ec⟩ := pad2_form c
  rw [ea, eb, ec] at hl
  have hl' : (formS a b c).data.toList = [x1, x2, x3, 45, y1, y2, 45, z1, z2] := by rw [hl]; rfl
  have h9 : (formS a b c).size = 9 := by rw [Lib.size_eq, hl']; rfl
  have hs : subT (formS a b c) = bs (codeL a b c) := by
    rw [← bs_of (subT (formS a b c)), subT_list _ _ _ _ _ _ _ _ _ _ hl']
    simp [codeL, ea, eb, ec]
  refine ⟨?_, h9⟩
  have hpb : parseB (formS a b c) = true := by
    unfold parseB; rw [hs, hc, h9, hl']; rfl
  unfold parseV
  rw [if_pos hpb, hs]
  simp only [placeV, hc, if_true] at hp
  exact hp

/-- Equal places are equal. -/
theorem eql_place (a b c : Int) (w : World) : (binOp .eql 23 (vPlace a b c) (vPlace a b c)).run Try.prog w = .ok (.bool true) w := by
  have u3 := Try.underlying3
  have hS : Try.prog.underlying 23 = some (.struct (Try.prog.fieldsOf 23)) := by kernel_rfl
  have hp : Try.prog.stoodInHeld 23 = false := by kernel_rfl
  rw [run_eql_struct, show (10000 : Nat) = 9999 + 1 from rfl, run_equalIn_agg w 9999 23 _ _ hS hp]
  simp only [Program.fieldsOf, Try.underlying23]
  go_simp
theorem neq_place (a b c : Int) (w : World) : (binOp .neq 23 (vPlace a b c) (vPlace a b c)).run Try.prog w = .ok (.bool false) w := by
  have u3 := Try.underlying3
  have hS : Try.prog.underlying 23 = some (.struct (Try.prog.fieldsOf 23)) := by kernel_rfl
  have hp : Try.prog.stoodInHeld 23 = false := by kernel_rfl
  rw [run_neq_struct, show (10000 : Nat) = 9999 + 1 from rfl, run_equalIn_agg w 9999 23 _ _ hS hp]
  simp only [Program.fieldsOf, Try.underlying23]
  go_simp

set_option maxHeartbeats 4000000 in
theorem law_FnPlaceCode (a : Option Addr) (len cap : Nat) (w : World) (h : BytesIn w a len cap) :
    Calls Try.prog 6 #[.slice a len cap] w fun e w' => e = .returned (.bool true) ∧ Below w.heap.size w w' := by
  have HC := Lib.hid h
  have hlen : len ≤ 9223372036854775807 := by have := h.1; have := h.2.1; unfold maxLen at this; omega
  clear h
  by_cases hbig : len ≤ 1048576
  · go_enter Try.func6, Try.ntmps6
    go_wp2_with fail
    refine (DrawCodeOf_any _ _ _ _ HC.out).mono ?_
    rintro e w1 ⟨_, rfl, ⟨pa, pb, pc, rfl⟩, hb1⟩
    have HB := Lib.hid (Box3.made w1 pa pb pc 23)
    cases hv : placeB pa pb pc with
    | false =>
      have HCV := Lib.hid (show codeV pa pb pc = .tuple #[.string ⟨#[]⟩, .bool false] from by simp [codeV, hv])
      have HV := Lib.hid hv
      clear hv
      go_wp2_with fail
      refine (impl_CodeOf _ _ _ _).mono ?_
      rintro e w2 ⟨rfl, hb2⟩
      rw [HCV.out]
      replace HB := Lib.hid (HB.out.ext hb2)
      obtain ⟨x0, x1, x2, _⟩ := HB.out
      go_wp2_with fail
      refine (spec_CodeOf _ _ _ _).mono ?_
      rintro e w3 ⟨rfl, hb3⟩
      rw [HCV.out]
      replace HB := Lib.hid (HB.out.ext hb3)
      obtain ⟨y0, y1, y2, _⟩ := HB.out
      go_wp2_with fail
      refine (impl_PlaceValid _ _ _ _).mono ?_
      rintro e w4 ⟨rfl, hb4⟩
      rw [HV.out]
      replace HB := Lib.hid (HB.out.ext hb4)
      obtain ⟨z0, z1, z2, _⟩ := HB.out
      go_wp2_with fail
      refine (impl_PlaceValid _ _ _ _).mono ?_
      rintro e w5 ⟨rfl, hb5⟩
      rw [HV.out]
      go_wp2_with fail
      go_ret
      exact ⟨rfl, (by repeat (first | exact Below.refl _ _ | assumption | refine ext_alloc ?_ _ | refine Below.drew ?_ | refine below_drewN' ?_ _ | refine ext_set ?_ (by first | (simp; done) | (simp; omega) | omega) _ | refine ext_trans ?_ (by assumption)))⟩
    | true =>
      obtain ⟨hpb, hcb⟩ := place_back pa pb pc hv
      obtain ⟨hpp, h9⟩ := parse_back pa pb pc hv
      obtain ⟨cs, hcs⟩ : ∃ cs, cs = bs (codeL pa pb pc) := ⟨_, rfl⟩
      have h7 : cs.size = 7 := by rw [hcs, bs_size, codeL_len]
      rw [← hcs] at hpb hcb
      have HCV := Lib.hid (show codeV pa pb pc = .tuple #[.string cs, .bool true] from by rw [hcs]; simp [codeV, hv])
      obtain ⟨fs, hfs⟩ : ∃ fs, fs = formS pa pb pc := ⟨_, rfl⟩
      rw [← hfs] at hpp h9
      have HF := Lib.hid hfs.symm
      have HV := Lib.hid hv
      have HPB := Lib.hid hpb
      have HCB := Lib.hid hcb
      have HPP := Lib.hid hpp
      have hsm : cs.size ≤ maxLen := by unfold maxLen; omega
      have fsm : fs.size ≤ maxLen := by unfold maxLen; omega
      have heq : ((fs.size : Int) == (cs.size : Int) + 2) = true := by simp; omega
      have h7b : cs.size ≤ 7 := by omega
      have eqp := eql_place pa pb pc
      clear hv hcs hpb hcb hfs hpp h7 h9
      go_wp2_with fail
      refine (impl_CodeOf _ _ _ _).mono ?_
      rintro e w2 ⟨rfl, hb2⟩
      rw [HCV.out]
      replace HB := Lib.hid (HB.out.ext hb2)
      obtain ⟨x0, x1, x2, _⟩ := HB.out
      go_wp2_with fail
      refine (spec_CodeOf _ _ _ _).mono ?_
      rintro e w3 ⟨rfl, hb3⟩
      rw [HCV.out]
      replace HB := Lib.hid (HB.out.ext hb3)
      obtain ⟨y0, y1, y2, _⟩ := HB.out
      go_wp2_with fail
      refine (impl_PlaceValid _ _ _ _).mono ?_
      rintro e w4 ⟨rfl, hb4⟩
      rw [HV.out]
      replace HB := Lib.hid (HB.out.ext hb4)
      clear x0 x1 x2 y0 y1 y2
      obtain ⟨x0, x1, x2, _⟩ := HB.out
      go_wp2_with fail
      refine (impl_PlaceOf _ _ hsm).mono ?_
      rintro e w5 ⟨rfl, hb5⟩
      rw [HPB.out]
      have HB2 := Lib.hid (Box3.made w5 pa pb pc 23)
      replace HB := Lib.hid ((HB.out.ext hb5).ext (below_box w5 (.cells #[.int .i64 pa, .int .i64 pb, .int .i64 pc] 23)))
      clear x0 x1 x2
      obtain ⟨x0, x1, x2, _⟩ := HB.out
      go_wp2_with fail
      refine (impl_FormatPlace _ _ _ _).mono ?_
      rintro e w6 ⟨rfl, hb6⟩
      rw [HF.out]
      replace HB := Lib.hid (HB.out.ext hb6)
      replace HB2 := Lib.hid (HB2.out.ext hb6)
      go_wp2_with fail
      refine (impl_ParsePlace _ _ fsm).mono ?_
      rintro e w7 ⟨rfl, hb7⟩
      rw [HPP.out]
      have HB3 := Lib.hid (Box3.made w7 pa pb pc 23)
      replace HB := Lib.hid ((HB.out.ext hb7).ext (below_box w7 (.cells #[.int .i64 pa, .int .i64 pb, .int .i64 pc] 23)))
      replace HB2 := Lib.hid ((HB2.out.ext hb7).ext (below_box w7 (.cells #[.int .i64 pa, .int .i64 pb, .int .i64 pc] 23)))
      clear x0 x1 x2
      obtain ⟨x0, x1, x2, _⟩ := HB.out
      obtain ⟨y0, y1, y2, _⟩ := HB2.out
      obtain ⟨z0, z1, z2, _⟩ := HB3.out
      go_wp2_with fail
      refine (impl_CodeValid _ _ hsm).mono ?_
      rintro e w8 ⟨rfl, rfl⟩
      rw [HCB.out]
      go_wp2_with fail
      refine (impl_FormatPlace _ _ _ _).mono ?_
      rintro e w9 ⟨rfl, hb9⟩
      rw [HF.out]
      go_wp2_with fail
      go_ret
      exact ⟨rfl, (by repeat (first | exact Below.refl _ _ | assumption | refine ext_alloc ?_ _ | refine Below.drew ?_ | refine below_drewN' ?_ _ | refine ext_set ?_ (by first | (simp; done) | (simp; omega) | omega) _ | refine ext_trans ?_ (by assumption)))⟩
  · go_enter Try.func6, Try.ntmps6
    go_wp2_with fail
    go_ret
    exact ⟨rfl, (by repeat (first | exact Below.refl _ _ | assumption | refine ext_alloc ?_ _ | refine Below.drew ?_ | refine below_drewN' ?_ _ | refine ext_set ?_ (by first | (simp; done) | (simp; omega) | omega) _ | refine ext_trans ?_ (by assumption)))⟩

theorem codeV_of_code (s : ByteArray) (h : codeB s = true) : codeV (areaOf s) (walkOf s) (pointOf s) = .tuple #[.string s, .bool true] := by
  obtain ⟨h1, h2⟩ := code_back s h
  simp only [codeV, h2, if_true, h1, bs_of]
theorem digs_of_code (s : ByteArray) (h : codeB s = true) : digsB s = true := by
  obtain ⟨h1, h2⟩ := codeB_parts h
  simp [digsB, h2]; omega
/-- A text that is parsed is that of the parsed place. -/
theorem parse_form (t : ByteArray) : ∃ (a b c : Int) (ok : Bool), parseV t = .tuple #[vPlace a b c, .bool ok] ∧ (ok = true → formS a b c = t) := by
  cases hp : parseB t with
  | false => exact ⟨0, 0, 0, false, by simp [parseV, hp], fun h => by cases h⟩
  | true =>
    refine ⟨_, _, _, true, by simp only [parseV, hp, if_true]; rfl, fun _ => ?_⟩
    have hh := hp
    simp only [parseB, Bool.and_eq_true, decide_eq_true_eq] at hh
    exact (form_code t hh.1.1.1 hh.1.1.2).2 hp

set_option maxHeartbeats 4000000 in
theorem law_FnCodePlace (a : Option Addr) (len cap : Nat) (a2 : Option Addr) (len2 cap2 : Nat) (w : World) (h : BytesIn w a len cap) (h2 : BytesIn w a2 len2 cap2) :
    Calls Try.prog 7 #[.slice a len cap, .slice a2 len2 cap2] w fun e w' => e = .returned (.bool true) ∧ Below w.heap.size w w' := by
  have HC := Lib.hid h
  have HC2 := Lib.hid h2
  have hlen : len ≤ 9223372036854775807 := by have := h.1; have := h.2.1; unfold maxLen at this; omega
  have hlen2 : len2 ≤ 9223372036854775807 := by have := h2.1; have := h2.2.1; unfold maxLen at this; omega
  clear h h2
  by_cases hbig : len ≤ 1048576 ∧ len2 ≤ 1048576
  · obtain ⟨hbig1, hbig2⟩ := hbig
    go_enter Try.func7, Try.ntmps7
    go_wp2_with fail
    refine (DrawPlaceOf_any _ _ _ _ HC.out).mono ?_
    rintro e w1 ⟨_, rfl, ⟨s, rfl, hs⟩, hb1⟩
    have hsm : s.size ≤ maxLen := by unfold maxLen; omega
    cases hv : codeB s with
    | false =>
      have HPV := Lib.hid (show placeV s = .tuple #[vPlace 0 0 0, .bool false] from by simp [placeV, hv])
      have HV := Lib.hid hv
      have eqp := eql_place 0 0 0
      have nqp := neq_place 0 0 0
      clear hv
      go_wp2_with fail
      refine (impl_PlaceOf _ _ hsm).mono ?_
      rintro e w2 ⟨rfl, hb2⟩
      rw [HPV.out]
      have HB := Lib.hid (Box3.made w2 0 0 0 23)
      go_wp2_with fail
      refine (spec_PlaceOf _ _ hsm).mono ?_
      rintro e w3 ⟨rfl, hb3⟩
      rw [HPV.out]
      replace HB := Lib.hid ((HB.out.ext hb3).ext (below_box w3 (.cells #[.int .i64 0, .int .i64 0, .int .i64 0] 23)))
      have HB2 := Lib.hid (Box3.made w3 0 0 0 23)
      obtain ⟨x0, x1, x2, _⟩ := HB.out
      obtain ⟨y0, y1, y2, _⟩ := HB2.out
      go_wp2_with (go_at_call 26; refine (impl_CodeValid _ _ hsm).mono ?_; rintro e w' ⟨rfl, rfl⟩; rw [HV.out])
      go_ret
      exact ⟨rfl, (by repeat (first | exact Below.refl _ _ | assumption | refine ext_alloc ?_ _ | refine Below.drew ?_ | refine below_drewN' ?_ _ | refine ext_set ?_ (by first | (simp; done) | (simp; omega) | omega) _ | refine ext_trans ?_ (by assumption)))⟩
    | true =>
      obtain ⟨pa, pb, pc, hpv, hcv⟩ : ∃ pa pb pc, placeV s = .tuple #[vPlace pa pb pc, .bool true] ∧ codeV pa pb pc = .tuple #[.string s, .bool true] := ⟨_, _, _, by simp only [placeV, hv]; rfl, codeV_of_code s hv⟩
      have HPV := Lib.hid hpv
      have HCV := Lib.hid hcv
      have HD := Lib.hid (digs_of_code s hv)
      have HV := Lib.hid hv
      have eqp := eql_place pa pb pc
      have nqp := neq_place pa pb pc
      clear hv hpv hcv
      go_wp2_with fail
      refine (impl_PlaceOf _ _ hsm).mono ?_
      rintro e w2 ⟨rfl, hb2⟩
      rw [HPV.out]
      have HB := Lib.hid (Box3.made w2 pa pb pc 23)
      go_wp2_with fail
      refine (spec_PlaceOf _ _ hsm).mono ?_
      rintro e w3 ⟨rfl, hb3⟩
      rw [HPV.out]
      replace HB := Lib.hid ((HB.out.ext hb3).ext (below_box w3 (.cells #[.int .i64 pa, .int .i64 pb, .int .i64 pc] 23)))
      have HB2 := Lib.hid (Box3.made w3 pa pb pc 23)
      obtain ⟨x0, x1, x2, _⟩ := HB.out
      obtain ⟨y0, y1, y2, _⟩ := HB2.out
      go_wp2_with fail
      refine (impl_CodeValid _ _ hsm).mono ?_
      rintro e w' ⟨rfl, rfl⟩
      rw [HV.out]
      go_wp2_with fail
      refine (impl_CodeOf _ _ _ _).mono ?_
      rintro e w4 ⟨rfl, hb4⟩
      rw [HCV.out]
      have hbw : Below w.heap.size w w4 := (by repeat (first | exact Below.refl _ _ | assumption | refine ext_alloc ?_ _ | refine Below.drew ?_ | refine below_drewN' ?_ _ | refine ext_set ?_ (by first | (simp; done) | (simp; omega) | omega) _ | refine ext_trans ?_ (by assumption)))
      replace HC2 := Lib.hid (HC2.out.ext hbw)
      clear x0 x1 x2 y0 y1 y2 HB HB2 eqp nqp
      go_wp2_with fail
      refine (DrawParsePlace_any _ _ _ _ HC2.out).mono ?_
      rintro e w5 ⟨_, rfl, ⟨t, rfl, ht⟩, hb5⟩
      have htm : t.size ≤ maxLen := by unfold maxLen; omega
      obtain ⟨qa, qb, qc, ok, hqv, hqf⟩ := parse_form t
      have HQ := Lib.hid hqv
      have eqp := eql_place qa qb qc
      clear hqv
      go_wp2_with fail
      refine (impl_ParsePlace _ _ htm).mono ?_
      rintro e w6 ⟨rfl, hb6⟩
      rw [HQ.out]
      have HB := Lib.hid (Box3.made w6 qa qb qc 23)
      go_wp2_with fail
      refine (spec_ParsePlace _ _ htm).mono ?_
      rintro e w7 ⟨rfl, hb7⟩
      rw [HQ.out]
      replace HB := Lib.hid ((HB.out.ext hb7).ext (below_box w7 (.cells #[.int .i64 qa, .int .i64 qb, .int .i64 qc] 23)))
      have HB2 := Lib.hid (Box3.made w7 qa qb qc 23)
      obtain ⟨x0, x1, x2, _⟩ := HB.out
      obtain ⟨y0, y1, y2, _⟩ := HB2.out
      go_wp2_with fail
      refine (impl_DigitsValid _ _ hsm).mono ?_
      rintro e w' ⟨rfl, rfl⟩
      rw [HD.out]
      cases ok with
      | false =>
        clear hqf
        go_wp2_with fail
        go_ret
        exact ⟨rfl, (by repeat (first | exact Below.refl _ _ | assumption | refine ext_alloc ?_ _ | refine Below.drew ?_ | refine below_drewN' ?_ _ | refine ext_set ?_ (by first | (simp; done) | (simp; omega) | omega) _ | refine ext_trans ?_ (by assumption)))⟩
      | true =>
        have HF := Lib.hid (hqf rfl)
        clear hqf
        go_wp2_with fail
        refine (impl_FormatPlace _ _ _ _).mono ?_
        rintro e w9 ⟨rfl, hb9⟩
        rw [HF.out]
        go_wp2_with fail
        go_ret
        exact ⟨by simp, (by repeat (first | exact Below.refl _ _ | assumption | refine ext_alloc ?_ _ | refine Below.drew ?_ | refine below_drewN' ?_ _ | refine ext_set ?_ (by first | (simp; done) | (simp; omega) | omega) _ | refine ext_trans ?_ (by assumption)))⟩
  · go_enter Try.func7, Try.ntmps7
    by_cases hb1 : len ≤ 1048576
    · have hb2 : 1048576 < len2 := by omega
      clear hbig
      go_wp2_with fail
      go_ret
      exact ⟨rfl, (by repeat (first | exact Below.refl _ _ | assumption | refine ext_alloc ?_ _ | refine Below.drew ?_ | refine below_drewN' ?_ _ | refine ext_set ?_ (by first | (simp; done) | (simp; omega) | omega) _ | refine ext_trans ?_ (by assumption)))⟩
    · clear hbig
      go_wp2_with fail
      go_ret
      exact ⟨rfl, (by repeat (first | exact Below.refl _ _ | assumption | refine ext_alloc ?_ _ | refine Below.drew ?_ | refine below_drewN' ?_ _ | refine ext_set ?_ (by first | (simp; done) | (simp; omega) | omega) _ | refine ext_trans ?_ (by assumption)))⟩

end Go.Proofs.Ytcopkapcgabkmaa
