/-
  WALKS: the reference's drawn places (DrawPlaceValid, DrawCodeOf, DrawParsePlace). Only totality and shape. By an AI agent.
-/
import Derived.Test.YtcopkapcgabkmaaSome
import Derived.Test.YtcopkapcgabkmaaParse
import Derived.Deep.RegionHeld3
namespace Go.Proofs.Ytcopkapcgabkmaa
open Go.RowKit

/-- Any place. -/
def IsPlace (v : Value) : Prop := ∃ a b c : Int, v = vPlace a b c
theorem placeV_form (s : ByteArray) : ∃ (a b c : Int) (ok : Bool), placeV s = .tuple #[vPlace a b c, .bool ok] := by
  unfold placeV; split
  · exact ⟨_, _, _, _, rfl⟩
  · exact ⟨_, _, _, _, rfl⟩
/-- What a row of three cells gives a walk. -/
theorem Row.three {x : World} {g : Nat} {e : TypeId} {a b c : Value} (h : Row x g e #[a, b, c]) :
    x.cell? ⟨g, 0, none⟩ = some a ∧ x.cell? ⟨g, 1, none⟩ = some b ∧ x.cell? ⟨g, 2, none⟩ = some c ∧ x.frozen? ⟨g, 0, none⟩ = false ∧ x.frozen? ⟨g, 1, none⟩ = false ∧ x.frozen? ⟨g, 2, none⟩ = false :=
  ⟨h.cell 0, h.cell 1, h.cell 2, h.frozen 0, h.frozen 1, h.frozen 2⟩

set_option maxHeartbeats 4000000 in
theorem DrawPlaceValid_any (a : Option Addr) (len cap : Nat) (w : World) (h : BytesIn w a len cap) :
    Calls Try.prog 41 #[.slice a len cap] w (Drawn IsPlace w) := by
  have HC := Lib.hid (h.ext (below_box w (.cells #[.int .i64 0, .int .i64 0, .int .i64 0] 23)))
  clear h
  go_enter Try.func41, Try.ntmps41
  go_wp2_with fail; refine (l9Open_any _ _ _ _ HC.out).mono ?_; rintro e w1 ⟨r, rfl, hr, hle, hb⟩; have HS := Lib.hid (Src.mk1 hr hle hb); clear hr hb
  go_wp2_with fail; refine (l1Some_any r _ _ HS.out.1 (by omega)).mono ?_; rintro e w1 ⟨_, rfl, ⟨l, rfl, hl, hdl⟩, hr, hg⟩; replace HS := Lib.hid (HS.out.got hr hg); clear hr hg
  go_wp2_with fail
  refine (spec_PlaceOf _ _ (by rw [bs_size]; unfold maxLen; omega)).mono ?_
  rintro e w2 ⟨rfl, hb⟩
  obtain ⟨pa, pb, pc, ok, hpv⟩ := placeV_form (bs l)
  rw [hpv]
  clear hpv
  replace HS := Lib.hid (HS.out.ext hb)
  clear hb
  go_wp2_with fail
  refine (pick_lit r _ 30 _ (HS.out.1.alloc _) (by omega) (by omega)).mono ?_
  rintro e w3 ⟨_, rfl, ⟨q, rfl, hq⟩, hr, hg⟩
  have hrlt := HS.out.1.lt
  have HP := Lib.hid ((Row.made w2 23 #[.int .i64 pa, .int .i64 pb, .int .i64 pc]).got hg (by omega))
  replace HS := Lib.hid ((HS.out.alloc _).got hr hg)
  clear hr hg
  simp at hle
  have hw2 : w.heap.size < w2.heap.size := by omega
  have fin : ∀ (x : World) (P : Nat), Src (w.alloc (.cells #[.int .i64 0, .int .i64 0, .int .i64 0] 23)) x r P → Row x w.heap.size 23 #[.int .i64 0, .int .i64 0, .int .i64 0] := fun x P hx => (Row.made w _ _).ext hx.2.2
  have FIN := Lib.hid fin
  clear fin
  obtain ⟨p0, p1, p2, pf0, pf1, pf2⟩ := HP.out.three
  obtain ⟨r0, r1, r2, rf0, rf1, rf2⟩ := (FIN.out _ _ HS.out).three
  go_wp2_with fail
  · refine (num_any r _ _ [-1, 1000, 9223372036854775807] _ (HS.out.1.alloc _) (by omega) (by decide) (Row.made _ _ _) (Nat.ne_of_gt HS.out.1.lt) _).mono ?_
    rintro e w4 ⟨_, rfl, ⟨x, hx, rfl⟩, hr, hg⟩
    replace HP := Lib.hid ((HP.out.stay _).got hg (by omega))
    replace HS := Lib.hid ((HS.out.alloc _).got hr hg)
    clear hr hg hx p0 p1 p2 pf0 pf1 pf2 r0 r1 r2 rf0 rf1 rf2
    obtain ⟨p0, p1, p2, pf0, pf1, pf2⟩ := HP.out.three
    obtain ⟨r0, r1, r2, rf0, rf1, rf2⟩ := (FIN.out _ _ HS.out).three
    go_wp2_with fail
    have hbw := ext_trans (below_box w _) HS.out.2.2
    exact bodyPost_ret (v := vPlace x pb pc) (by simp [results, Try.results41, go_sem, r0, r1, r2]) rfl ⟨_, rfl, ⟨_, _, _, rfl⟩, (by repeat (first | exact Below.refl _ _ | assumption | refine ext_alloc ?_ _ | refine Below.drew ?_ | refine below_drewN' ?_ _ | refine ext_set ?_ (by first | (simp; done) | (simp; omega) | omega) _ | refine ext_trans ?_ (by assumption)))⟩
  · refine (num_any r _ _ [-1, 100] _ (HS.out.1.alloc _) (by omega) (by decide) (Row.made _ _ _) (Nat.ne_of_gt HS.out.1.lt) _).mono ?_
    rintro e w4 ⟨_, rfl, ⟨x, hx, rfl⟩, hr, hg⟩
    replace HP := Lib.hid ((HP.out.stay _).got hg (by omega))
    replace HS := Lib.hid ((HS.out.alloc _).got hr hg)
    clear hr hg hx p0 p1 p2 pf0 pf1 pf2 r0 r1 r2 rf0 rf1 rf2
    obtain ⟨p0, p1, p2, pf0, pf1, pf2⟩ := HP.out.three
    obtain ⟨r0, r1, r2, rf0, rf1, rf2⟩ := (FIN.out _ _ HS.out).three
    go_wp2_with fail
    have hbw := ext_trans (below_box w _) HS.out.2.2
    exact bodyPost_ret (v := vPlace pa x pc) (by simp [results, Try.results41, go_sem, r0, r1, r2]) rfl ⟨_, rfl, ⟨_, _, _, rfl⟩, (by repeat (first | exact Below.refl _ _ | assumption | refine ext_alloc ?_ _ | refine Below.drew ?_ | refine below_drewN' ?_ _ | refine ext_set ?_ (by first | (simp; done) | (simp; omega) | omega) _ | refine ext_trans ?_ (by assumption)))⟩
  · refine (num_any r _ _ [-1, 100, -9223372036854775808] _ (HS.out.1.alloc _) (by omega) (by decide) (Row.made _ _ _) (Nat.ne_of_gt HS.out.1.lt) _).mono ?_
    rintro e w4 ⟨_, rfl, ⟨x, hx, rfl⟩, hr, hg⟩
    replace HP := Lib.hid ((HP.out.stay _).got hg (by omega))
    replace HS := Lib.hid ((HS.out.alloc _).got hr hg)
    clear hr hg hx p0 p1 p2 pf0 pf1 pf2 r0 r1 r2 rf0 rf1 rf2
    obtain ⟨p0, p1, p2, pf0, pf1, pf2⟩ := HP.out.three
    obtain ⟨r0, r1, r2, rf0, rf1, rf2⟩ := (FIN.out _ _ HS.out).three
    go_wp2_with fail
    have hbw := ext_trans (below_box w _) HS.out.2.2
    exact bodyPost_ret (v := vPlace pa pb x) (by simp [results, Try.results41, go_sem, r0, r1, r2]) rfl ⟨_, rfl, ⟨_, _, _, rfl⟩, (by repeat (first | exact Below.refl _ _ | assumption | refine ext_alloc ?_ _ | refine Below.drew ?_ | refine below_drewN' ?_ _ | refine ext_set ?_ (by first | (simp; done) | (simp; omega) | omega) _ | refine ext_trans ?_ (by assumption)))⟩
  · have hbw := ext_trans (below_box w _) HS.out.2.2
    exact bodyPost_ret (v := vPlace pa pb pc) (by simp [results, Try.results41, go_sem, r0, r1, r2]) rfl ⟨_, rfl, ⟨_, _, _, rfl⟩, (by repeat (first | exact Below.refl _ _ | assumption | refine ext_alloc ?_ _ | refine Below.drew ?_ | refine below_drewN' ?_ _ | refine ext_set ?_ (by first | (simp; done) | (simp; omega) | omega) _ | refine ext_trans ?_ (by assumption)))⟩

set_option maxHeartbeats 2000000 in
theorem DrawCodeOf_any (a : Option Addr) (len cap : Nat) (w : World) (h : BytesIn w a len cap) :
    Calls Try.prog 20 #[.slice a len cap] w (Drawn IsPlace w) := by
  have HC := Lib.hid (h.ext (below_box w (.cells #[.int .i64 0, .int .i64 0, .int .i64 0] 23)))
  clear h
  go_enter Try.func20, Try.ntmps20
  go_wp2_with fail
  refine (DrawPlaceValid_any _ _ _ _ HC.out).mono ?_
  rintro e w2 ⟨_, rfl, ⟨pa, pb, pc, rfl⟩, hb⟩
  obtain ⟨r0, r1, r2, rf0, rf1, rf2⟩ := ((Row.made w 23 #[.int .i64 0, .int .i64 0, .int .i64 0]).ext hb).three
  have hbw := ext_trans (below_box w _) hb
  go_wp2_with fail
  exact bodyPost_ret (v := vPlace pa pb pc) (by simp [results, Try.results20, go_sem, r0, r1, r2]) rfl ⟨_, rfl, ⟨_, _, _, rfl⟩, (by repeat (first | exact Below.refl _ _ | assumption | refine ext_alloc ?_ _ | refine Below.drew ?_ | refine below_drewN' ?_ _ | refine ext_set ?_ (by first | (simp; done) | (simp; omega) | omega) _ | refine ext_trans ?_ (by assumption)))⟩

theorem formS_size (s : ByteArray) (h : codeB s = true) : (formS (areaOf s) (walkOf s) (pointOf s)).size = 9 := by
  rw [formS, if_pos (code_back s h).2, bs_size]; simp [formL, padL_length]

set_option maxHeartbeats 4000000 in
theorem DrawParsePlace_any (a : Option Addr) (len cap : Nat) (w : World) (h : BytesIn w a len cap) :
    Calls Try.prog 29 #[.slice a len cap] w (Drawn (Str 20) w) := by
  have HC := Lib.hid h
  clear h
  go_enter Try.func29, Try.ntmps29
  go_wp2_with fail; refine (l9Open_any _ _ _ _ HC.out).mono ?_; rintro e w1 ⟨r, rfl, hr, hle, hb⟩; have HS := Lib.hid (Src.mk1 hr hle hb); clear hr hb
  go_wp2_with fail; refine (l1Some_any r _ _ HS.out.1 (by omega)).mono ?_; rintro e w1 ⟨_, rfl, ⟨l, rfl, hl, hdl⟩, hr, hg⟩; replace HS := Lib.hid (HS.out.got hr hg); clear hr hg
  have hcb : codeB (bs l) = true := by simp [codeB, bs_size, bs_list, hl, hdl]
  obtain ⟨pa, pb, pc, hpv, h9⟩ : ∃ pa pb pc, placeV (bs l) = .tuple #[vPlace pa pb pc, .bool true] ∧ (formS pa pb pc).size = 9 := ⟨_, _, _, by simp only [placeV, hcb]; rfl, formS_size _ hcb⟩
  have HPV := Lib.hid hpv
  clear hpv hcb
  go_wp2_with fail
  refine (spec_PlaceOf _ _ (by rw [bs_size]; unfold maxLen; omega)).mono ?_
  rintro e w2 ⟨rfl, hb⟩
  rw [HPV.out]
  replace HS := Lib.hid ((HS.out.ext hb).alloc (.cells #[.int .i64 pa, .int .i64 pb, .int .i64 pc] 23))
  clear hb
  go_wp2_with fail
  refine (spec_FormatPlace _ _ _ _).mono ?_
  rintro e w3 ⟨rfl, hb⟩
  replace HS := Lib.hid (HS.out.ext hb)
  clear hb
  obtain ⟨t, ht⟩ : ∃ t, t = formS pa pb pc := ⟨_, rfl⟩
  rw [← ht] at h9 ⊢
  have t9a : 9 ≤ t.size := by omega
  have t9b : t.size ≤ 9 := by omega
  clear ht h9
  go_wp2_with fail; refine (pick_lit r _ 2 _ HS.out.1 (by omega) (by omega)).mono ?_; rintro e w1 ⟨_, rfl, ⟨q, rfl, hq⟩, hr, hg⟩; replace HS := Lib.hid (HS.out.got hr hg); clear hr hg
  go_wp2_with fail
  · go_ret
    exact HS.out.fin ⟨_, rfl, by omega⟩
  · refine (pick_any r t.size _ _ HS.out.1 (by omega) (by omega)).mono ?_
    rintro e w1 ⟨_, rfl, ⟨k, rfl, hk⟩, hr, hg⟩
    replace HS := Lib.hid (HS.out.got hr hg)
    clear hr hg
    have hki : (k : Int) ≤ (t.size : Int) := by omega
    have hki2 : (k : Int) + 1 ≤ (t.size : Int) := by omega
    replace HS := Lib.hid HS.out.drew
    have hno1 : ∀ x : ByteArray, x.size ≤ 1 → ¬ 9223372036854775807 < min k t.size + x.size := fun x hx => by omega
    have hno2 : ∀ (x : ByteArray) (m : Nat), x.size ≤ 1 → ¬ 9223372036854775807 < min k t.size + x.size + (t.size - (k + m)) := fun x m hx => by omega
    have hwk : ∀ m : Nat, (m : Int) < 2 → IntKind.i64.wrap ((k : Int) + (m : Int)) = (k : Int) + (m : Int) := fun m hm => IntWalk.i64_in _ (by omega)
    have hkn : ∀ m : Nat, ((k : Int) + (m : Int)).toNat = k + m := fun m => by omega
    have hkp : ∀ m : Nat, 0 ≤ (k : Int) + (m : Int) := fun m => by omega
    have hkq : ∀ m : Nat, (m : Int) < 2 → (k : Int) + (m : Int) ≤ (t.size : Int) := fun m hm => by omega
    go_wp2_with fail
    go_region_held3 (fun _ => True) (trivial) (first | (go_at_call 49; refine (of_any r _ _ [⟨#[]⟩, ⟨#[48]⟩, ⟨#[45]⟩, ⟨#[120]⟩, ⟨#[32]⟩] _ (HS.out.1.alloc _) (by omega) (by decide) (Row.made _ _ _) (Nat.ne_of_gt HS.out.1.lt) _).mono ?_; rintro e w4 ⟨_, rfl, ⟨x, hx, rfl⟩, hr, hg⟩; replace HS := Lib.hid ((HS.out.alloc _).got hr hg); clear hr hg; have hx1 : x.size ≤ 1 := (by simp at hx; rcases hx with rfl | rfl | rfl | rfl | rfl <;> decide); clear hx) | (go_at_call 34; refine (pick_lit r _ 2 _ HS.out.1 (by omega) (by omega)).mono ?_; rintro e w5 ⟨_, rfl, ⟨m, rfl, hm⟩, hr, hg⟩; replace HS := Lib.hid (HS.out.got hr hg); clear hr hg))
    all_goals
      clear hno1 hno2 hwk hkn hkp hkq
      go_wp2_with fail
      go_ret
      exact HS.out.fin ⟨_, rfl, by rw [size_app, size_app, ByteArray.size_extract, ByteArray.size_extract]; omega⟩

end Go.Proofs.Ytcopkapcgabkmaa
