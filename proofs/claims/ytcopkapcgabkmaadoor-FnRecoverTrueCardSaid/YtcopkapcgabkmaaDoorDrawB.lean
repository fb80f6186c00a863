/-
  WALKS: the reference's drawn bars (DrawDigitBars, DrawBarsDigit, l1Smudge, DrawReadBars, DrawReadEither, DrawRecoverBars). Only totality and sizes. By an AI agent.
-/
import Derived.Test.YtcopkapcgabkmaaDoorSome
import Derived.Test.YtcopkapcgabkmaaDoorRead2
namespace Go.Proofs.YtcopkapcgabkmaaDoor
open Go.RowKit

def IsInt (v : Value) : Prop := ∃ d : Int, v = .int .i64 d

set_option maxHeartbeats 2000000 in
theorem DrawDigitBars_any (a : Option Addr) (len cap : Nat) (w : World) (h : BytesIn w a len cap) :
    Calls Tryd.prog 22 #[.slice a len cap] w (Drawn IsInt w) := by
  have HC := Lib.hid h
  clear h
  go_enter Tryd.func22, Tryd.ntmps22
  go_wp2_with fail; refine (l9Open_any _ _ _ _ HC.out).mono ?_; rintro e w1 ⟨r, rfl, hr, hle, hb⟩; have HS := Lib.hid (Src.mk1 hr hle hb); clear hr hb
  go_wp2_with fail; refine (pick_lit r _ 10 _ HS.out.1 (by omega) (by omega)).mono ?_; rintro e w1 ⟨_, rfl, ⟨m, rfl, hm⟩, hr, hg⟩; replace HS := Lib.hid (HS.out.got hr hg); clear hr hg
  go_wp2_with fail
  · go_wp2_with fail; refine (num_any r _ _ [-1, 10, 9223372036854775807] _ (HS.out.1.alloc _) (by omega) (by decide) (Row.made _ _ _) (Nat.ne_of_gt HS.out.1.lt) _).mono ?_; rintro e w1 ⟨_, rfl, ⟨x, hx, rfl⟩, hr, hg⟩; replace HS := Lib.hid ((HS.out.alloc _).got hr hg); clear hr hg
    go_wp2_with fail
    go_ret
    exact HS.out.fin ⟨_, rfl⟩
  · go_wp2_with fail; refine (pick_lit r _ 10 _ HS.out.1 (by omega) (by omega)).mono ?_; rintro e w1 ⟨_, rfl, ⟨k, rfl, hk⟩, hr, hg⟩; replace HS := Lib.hid (HS.out.got hr hg); clear hr hg
    go_wp2_with fail
    go_ret
    exact HS.out.fin ⟨_, rfl⟩

set_option maxHeartbeats 4000000 in
theorem DrawBarsDigit_any (a : Option Addr) (len cap : Nat) (w : World) (h : BytesIn w a len cap) :
    Calls Tryd.prog 27 #[.slice a len cap] w (Drawn (Str 6) w) := by
  have HC := Lib.hid h
  clear h
  go_enter Tryd.func27, Tryd.ntmps27
  go_wp2_with fail; refine (l9Open_any _ _ _ _ HC.out).mono ?_; rintro e w1 ⟨r, rfl, hr, hle, hb⟩; have HS := Lib.hid (Src.mk1 hr hle hb); clear hr hb
  go_wp2_with fail; refine (pick_lit r _ 10 _ HS.out.1 (by omega) (by omega)).mono ?_; rintro e w1 ⟨_, rfl, ⟨m, rfl, hm⟩, hr, hg⟩; replace HS := Lib.hid (HS.out.got hr hg); clear hr hg
  go_wp2_with fail
  refine (spec_l1Bars_int _ _ (by omega) (by omega)).mono ?_
  rintro e w2 ⟨rfl, hb⟩
  replace HS := Lib.hid (HS.out.ext hb)
  clear hb
  have h5 := size_digitBar (m : Int) (by omega) (by omega)
  obtain ⟨t, ht⟩ : ∃ t, digitBarS (m : Int) = t := ⟨_, rfl⟩
  rw [ht] at h5 ⊢
  have t5a : 5 ≤ t.size := by omega
  have t5b : t.size ≤ 5 := by omega
  clear h5 ht
  go_wp2_with fail; refine (pick_lit r _ 5 _ HS.out.1 (by omega) (by omega)).mono ?_; rintro e w1 ⟨_, rfl, ⟨k, rfl, hk⟩, hr, hg⟩; replace HS := Lib.hid (HS.out.got hr hg); clear hr hg
  go_wp2_with fail; refine (pick_lit r _ 4 _ HS.out.1 (by omega) (by omega)).mono ?_; rintro e w1 ⟨_, rfl, ⟨q, rfl, hq⟩, hr, hg⟩; replace HS := Lib.hid (HS.out.got hr hg); clear hr hg
  have hki : (k : Int) ≤ (t.size : Int) := by omega
  have hki2 : (k : Int) + 1 ≤ (t.size : Int) := by omega
  go_wp2_with fail
  · have hno1 : ∀ x : ByteArray, x.size ≤ 1 → ¬ 9223372036854775807 < min k t.size + x.size := fun x hx => by omega
    have hno2 : ∀ x : ByteArray, x.size ≤ 1 → ¬ 9223372036854775807 < min k t.size + x.size + (t.size - (k + 1)) := fun x hx => by omega
    have hwk : IntKind.i64.wrap ((k : Int) + 1) = (k : Int) + 1 := IntWalk.i64_in _ (by omega)
    have hkn : ((k : Int) + 1).toNat = k + 1 := by omega
    have hkp : 0 ≤ (k : Int) + 1 := by omega
    replace HS := Lib.hid HS.out.drew
    go_region_held3 (fun _ => True) (trivial) (first | (go_at_call 47; refine (of_any r _ _ [⟨#[124]⟩, ⟨#[46]⟩, ⟨#[63]⟩] _ (HS.out.1.alloc _) (by omega) (by decide) (Row.made _ _ _) (Nat.ne_of_gt HS.out.1.lt) _).mono ?_; rintro e w4 ⟨_, rfl, ⟨x, hx, rfl⟩, hr, hg⟩; replace HS := Lib.hid ((HS.out.alloc _).got hr hg); clear hr hg; have hx1 : x.size ≤ 1 := (by simp at hx; rcases hx with rfl | rfl | rfl <;> decide); clear hx))
    all_goals
      clear hno1 hno2 hwk
      go_wp2_with fail
      go_ret
      exact HS.out.fin ⟨_, rfl, by rw [size_app, size_app, ByteArray.size_extract, ByteArray.size_extract]; omega⟩
  · go_wp2_with fail; refine (of_any r _ _ [⟨#[]⟩, ⟨#[124]⟩, ⟨#[46]⟩] _ (HS.out.1.alloc _) (by omega) (by decide) (Row.made _ _ _) (Nat.ne_of_gt HS.out.1.lt) _).mono ?_; rintro e w1 ⟨_, rfl, ⟨x, hx, rfl⟩, hr, hg⟩; replace HS := Lib.hid ((HS.out.alloc _).got hr hg); clear hr hg
    have hx1 : x.size ≤ 1 := by simp at hx; rcases hx with rfl | rfl | rfl <;> decide
    clear hx
    have hno : ¬ 9223372036854775807 < t.size + x.size := by omega
    go_wp2_with fail
    go_ret
    exact HS.out.fin ⟨_, rfl, by rw [size_app]; omega⟩
  · go_ret
    exact HS.out.fin ⟨_, rfl, by omega⟩

set_option maxHeartbeats 4000000 in
theorem l1Smudge_any (r P N : Nat) (s : ByteArray) (w : World) (h : Rd w r P) (hP : P ≤ 900000) (hs : s.size ≤ N) (hN : N ≤ 1000) :
    Calls Tryd.prog 51 #[.pointer (some ⟨r, 0, none⟩), .string s] w (Got (Str (N + 1)) r (P + 8) w) := by
  have HS := Lib.hid (Sub.mk1 h)
  clear h
  go_enter Tryd.func51, Tryd.ntmps51
  go_wp2_with fail; refine (num_any r _ _ [0, 1, 0, 2, 3] _ (HS.out.1.alloc _) (by omega) (by decide) (Row.made _ _ _) (Nat.ne_of_gt HS.out.1.lt) _).mono ?_; rintro e w1 ⟨_, rfl, ⟨x, hx, rfl⟩, hr, hg⟩; replace HS := Lib.hid ((HS.out.alloc _).got hr hg); clear hr hg
  obtain ⟨n, rfl, hn3⟩ : ∃ n : Nat, x = n ∧ n ≤ 3 := ⟨x.toNat, by simp at hx; omega, by simp at hx; omega⟩
  clear hx
  go_wp2_with fail
  go_loopw [1, 5, 6] (fun sv nv kv wr => ∃ (t : ByteArray) (n : Nat), sv = .string t ∧ nv = .int .i64 n ∧ n ≤ 3 ∧ t.size ≤ N ∧ Sub w wr r (P + 7 - 2 * n)) (fun _ nv _ _ => (intOf nv).toNat)
  case atStart => exact ⟨s, n, rfl, rfl, hn3, hs, HS.out.mono (by omega)⟩
  case round =>
    obtain ⟨t, n, rfl, rfl, hn3, ht, hsub⟩ := hrel
    clear HS
    have HS := Lib.hid hsub
    clear hsub
    by_cases hgo : 0 < n ∧ 0 < t.size
    · obtain ⟨hn0, ht0⟩ := hgo
      go_wp2_with fail
      refine (pick_any r t.size _ _ HS.out.1 (by omega) (by omega)).mono ?_
      rintro e w1 ⟨_, rfl, ⟨k, rfl, hk⟩, hr, hg⟩
      replace HS := Lib.hid (HS.out.got hr hg)
      clear hr hg
      have hki : (k : Int) ≤ (t.size : Int) := by omega
      have hki2 : (k : Int) + 1 ≤ (t.size : Int) := by omega
      have hno1 : ∀ x : ByteArray, x.size ≤ 1 → ¬ 9223372036854775807 < min k t.size + x.size := fun x hx => by omega
      have hno2 : ∀ x : ByteArray, x.size ≤ 1 → ¬ 9223372036854775807 < min k t.size + x.size + (t.size - (k + 1)) := fun x hx => by omega
      have hwk : IntKind.i64.wrap ((k : Int) + 1) = (k : Int) + 1 := IntWalk.i64_in _ (by omega)
      have hkn : ((k : Int) + 1).toNat = k + 1 := by omega
      have hkp : 0 ≤ (k : Int) + 1 := by omega
      replace HS := Lib.hid HS.out.drew
      go_wp2_with fail
      go_region_held3 (fun _ => True) (trivial) (first | (go_at_call 47; refine (of_any r _ _ [⟨#[124]⟩, ⟨#[46]⟩, ⟨#[63]⟩] _ (HS.out.1.alloc _) (by omega) (by decide) (Row.made _ _ _) (Nat.ne_of_gt HS.out.1.lt) _).mono ?_; rintro e w4 ⟨_, rfl, ⟨x, hx, rfl⟩, hr, hg⟩; replace HS := Lib.hid ((HS.out.alloc _).got hr hg); clear hr hg; have hx1 : x.size ≤ 1 := (by simp at hx; rcases hx with rfl | rfl | rfl <;> decide); clear hx))
      all_goals
        clear hno1 hno2 hwk
        go_wp2_with fail
        go_roundw
        case rel => exact ⟨_, n - 1, rfl, by go_num, by omega, by rw [size_app, size_app, ByteArray.size_extract, ByteArray.size_extract]; omega, HS.out.mono (by omega)⟩
        case measure => simp [intOf]; omega
    · have hno : ¬ 9223372036854775807 < t.size + 1 := by omega
      by_cases hn0 : 0 < n
      · have ht0 : ¬ 0 < t.size := fun h => hgo ⟨hn0, h⟩
        clear hgo
        go_wp2_with fail; refine (pick_lit r _ 16 _ HS.out.1 (by omega) (by omega)).mono ?_; rintro e w1 ⟨_, rfl, ⟨q, rfl, hq⟩, hr, hg⟩; replace HS := Lib.hid (HS.out.got hr hg); clear hr hg
        go_wp2_with fail
        · go_ret
          exact HS.out.fin ⟨_, rfl, by rw [size_app]; show t.size + 1 ≤ _; omega⟩ (by omega)
        · go_ret
          exact HS.out.fin ⟨_, rfl, by omega⟩ (by omega)
      · clear hgo
        go_wp2_with fail; refine (pick_lit r _ 16 _ HS.out.1 (by omega) (by omega)).mono ?_; rintro e w1 ⟨_, rfl, ⟨q, rfl, hq⟩, hr, hg⟩; replace HS := Lib.hid (HS.out.got hr hg); clear hr hg
        go_wp2_with fail
        · go_ret
          exact HS.out.fin ⟨_, rfl, by rw [size_app]; show t.size + 1 ≤ _; omega⟩ (by omega)
        · go_ret
          exact HS.out.fin ⟨_, rfl, by omega⟩ (by omega)

theorem barsL_size (s : ByteArray) (h : codeB s = true) : (bs (barsL s)).size = 42 := by
  obtain ⟨h7, hd⟩ := codeB_parts2 h
  obtain ⟨c0, c9⟩ := chk_range s (code_digs s h)
  rw [bs_size]
  simp only [barsL, List.length_append, flat_len _ hd, barL_len _ (show (chkD s).toNat < 10 by omega), Array.length_toList]
  rw [show s.data.size = 7 from h7]; rfl
theorem turnS_size' (s : ByteArray) : (turnS s).size = s.size := by
  show (bs s.data.toList.reverse).size = _
  rw [bs_size, List.length_reverse, Array.length_toList]; rfl

set_option maxHeartbeats 4000000 in
theorem DrawReadBars_any (a : Option Addr) (len cap : Nat) (w : World) (h : BytesIn w a len cap) :
    Calls Tryd.prog 32 #[.slice a len cap] w (Drawn (Str 43) w) := by
  have HC := Lib.hid h
  clear h
  go_enter Tryd.func32, Tryd.ntmps32
  go_wp2_with fail; refine (l9Open_any _ _ _ _ HC.out).mono ?_; rintro e w1 ⟨r, rfl, hr, hle, hb⟩; have HS := Lib.hid (Src.mk1 hr hle hb); clear hr hb
  go_wp2_with fail; refine (l1Some_any r _ _ HS.out.1 (by omega)).mono ?_; rintro e w1 ⟨_, rfl, ⟨l, rfl, hl, hdl⟩, hr, hg⟩; replace HS := Lib.hid (HS.out.got hr hg); clear hr hg
  have hcb : codeB (bs l) = true := by simp [codeB, bs_size, bs_list, hl, hdl]
  have hz := barsL_size _ hcb
  obtain ⟨b, hb⟩ : ∃ b, bs (barsL (bs l)) = b := ⟨_, rfl⟩
  rw [hb] at hz
  have HBV := Lib.hid (show barsV (bs l) = .tuple #[.string b, .bool true] from by rw [← hb]; simp [barsV, hcb])
  have hz1 : b.size ≤ 42 := by omega
  clear hb hcb hz
  go_wp2_with fail
  refine (spec_BarsOf _ _ (by rw [bs_size]; unfold maxLen; omega)).mono ?_
  rintro e w2 ⟨rfl, hb⟩
  rw [HBV.out]
  replace HS := Lib.hid (HS.out.ext hb)
  clear hb
  go_wp2_with fail; refine (pick_lit r _ 5 _ HS.out.1 (by omega) (by omega)).mono ?_; rintro e w1 ⟨_, rfl, ⟨q, rfl, hq⟩, hr, hg⟩; replace HS := Lib.hid (HS.out.got hr hg); clear hr hg
  go_wp2_with fail
  · refine (spec_TurnBars _ _ (by omega)).mono ?_
    rintro e w3 ⟨rfl, hb⟩
    replace HS := Lib.hid (HS.out.ext hb)
    clear hb
    have hz2 : (turnS b).size ≤ 42 := by rw [turnS_size']; omega
    obtain ⟨b2, hb2⟩ : ∃ b2, turnS b = b2 := ⟨_, rfl⟩
    rw [hb2] at hz2 ⊢
    clear hb2
    go_wp2_with fail; refine (pick_lit r _ 2 _ HS.out.1 (by omega) (by omega)).mono ?_; rintro e w1 ⟨_, rfl, ⟨q2, rfl, hq2⟩, hr, hg⟩; replace HS := Lib.hid (HS.out.got hr hg); clear hr hg
    go_wp2_with fail
    · go_ret
      exact HS.out.fin ⟨_, rfl, by omega⟩
    · refine (l1Smudge_any r _ 42 _ _ HS.out.1 (by omega) (by omega) (by omega)).mono ?_
      rintro e w5 ⟨_, rfl, ⟨t, rfl, ht⟩, hr, hg⟩
      replace HS := Lib.hid (HS.out.got hr hg)
      clear hr hg
      go_wp2_with fail
      go_ret
      exact HS.out.fin ⟨_, rfl, ht⟩
  · replace HS := HS
    refine (pick_lit r _ 2 _ HS.out.1 (by omega) (by omega)).mono ?_
    rintro e w1 ⟨_, rfl, ⟨q2, rfl, hq2⟩, hr, hg⟩
    replace HS := Lib.hid (HS.out.got hr hg)
    clear hr hg
    go_wp2_with fail
    · go_ret
      exact HS.out.fin ⟨_, rfl, by omega⟩
    · refine (l1Smudge_any r _ 42 _ _ HS.out.1 (by omega) (by omega) (by omega)).mono ?_
      rintro e w5 ⟨_, rfl, ⟨t, rfl, ht⟩, hr, hg⟩
      replace HS := Lib.hid (HS.out.got hr hg)
      clear hr hg
      go_wp2_with fail
      go_ret
      exact HS.out.fin ⟨_, rfl, ht⟩

set_option maxHeartbeats 2000000 in
theorem DrawReadEither_any (a : Option Addr) (len cap : Nat) (w : World) (h : BytesIn w a len cap) :
    Calls Tryd.prog 33 #[.slice a len cap] w (Drawn (Str 43) w) := by
  have HC := Lib.hid h
  clear h
  go_enter Tryd.func33, Tryd.ntmps33
  go_wp2_with fail
  refine (DrawReadBars_any _ _ _ _ HC.out).mono ?_
  rintro e w2 ⟨_, rfl, ⟨s, rfl, hs⟩, hb⟩
  go_wp2_with fail
  go_ret
  exact ⟨_, rfl, ⟨_, rfl, hs⟩, hb⟩

set_option maxHeartbeats 2000000 in
theorem DrawRecoverBars_any (a : Option Addr) (len cap : Nat) (w : World) (h : BytesIn w a len cap) :
    Calls Tryd.prog 34 #[.slice a len cap] w (Drawn (Str 43) w) := by
  have HC := Lib.hid h
  clear h
  go_enter Tryd.func34, Tryd.ntmps34
  go_wp2_with fail
  refine (DrawReadBars_any _ _ _ _ HC.out).mono ?_
  rintro e w2 ⟨_, rfl, ⟨s, rfl, hs⟩, hb⟩
  go_wp2_with fail
  go_ret
  exact ⟨_, rfl, ⟨_, rfl, hs⟩, hb⟩

end Go.Proofs.YtcopkapcgabkmaaDoor
