/-
  WALKS: ReadBars, ReadEither of the program and of the reference; the four exact laws. By an AI agent.
-/
import Derived.Test.YtcopkapcgabkmaaDoorRead
namespace Go.Proofs.YtcopkapcgabkmaaDoor
open Go.RowKit

theorem lostG_all (b : ByteArray) : ∀ k, (∀ i, i < k → 0 ≤ gd b i) → lostG b k = some (-1)
  | 0, _ => rfl
  | k + 1, h => by
    have h1 := lostG_all b k (fun i hi => h i (by omega))
    have h2 := h k (by omega)
    simp [lostG, h1, show ¬ gd b k < 0 by omega]
theorem digL_take (b : ByteArray) : (digL b 8).take 7 = digL b 7 := by
  rw [digL_succ]; exact List.take_left' (digL_len b 7)
theorem recO_all (b : ByteArray) (h42 : b.size = 42) (h : ∀ i, i < 8 → 0 ≤ gd b i) : recO b = if sumG b 8 % 10 = 0 then some (digL b 7) else none := by
  unfold recO
  rw [if_pos h42, lostG_all b 8 h, digL_take]; simp
theorem readO_yes (b : ByteArray) (h42 : b.size = 42) (h0 : b.data.toList[0]? = some 124) (h1 : b.data.toList[41]? = some 124) (h : ∀ i, i < 8 → 0 ≤ gd b i) : readO b = recO b := by
  unfold readO; rw [if_pos ⟨h42, h0, h1, h⟩]

theorem grp_list (b : ByteArray) (i : Nat) : (grp b i).data.toList = (b.data.toList.drop (1 + 5 * i)).take 5 := by
  unfold grp; rw [Lib.extract_data, show 6 + 5 * i - (1 + 5 * i) = 5 by omega]
theorem seg (l : List UInt8) : ∀ k, (l.drop 1).take (5 * k) = (List.range k).flatMap fun i => (l.drop (1 + 5 * i)).take 5
  | 0 => by simp
  | k + 1 => by
    rw [List.range_succ, List.flatMap_append, ← seg l k, show 5 * (k + 1) = 5 * k + 5 by omega, List.take_add]
    simp [Nat.add_comm]
theorem barC_dgB (d : Int) (h0 : 0 ≤ d) (h9 : d ≤ 9) : barC (dgB d) = barL d.toNat := by
  have := dgB_val d h0 h9
  unfold barC; rw [show (dgB d).toNat - 48 = d.toNat by omega]
theorem flatMap_congr' {f g : Nat → List UInt8} (l : List Nat) (h : ∀ a ∈ l, f a = g a) : l.flatMap f = l.flatMap g := by
  rw [List.flatMap_def, List.flatMap_def, List.map_congr_left h]
theorem digL_bars (b : ByteArray) (k : Nat) (h : ∀ i, i < k → 0 ≤ gd b i) : (digL b k).flatMap barC = (b.data.toList.drop 1).take (5 * k) := by
  rw [seg]
  unfold digL
  rw [List.flatMap_map]
  apply flatMap_congr'
  intro i hi
  have hi' : i < k := by simpa using hi
  have h0 := h i hi'
  have hp : pos (gd b i) = gd b i := by unfold pos; rw [if_neg (by omega)]
  rw [hp, barC_dgB _ h0 (gd_lo b i).2, ← grp_list]
  exact (barsD_eq _ h0).symm
theorem digL_code (b : ByteArray) : codeB (bs (digL b 7)) = true := by simp [codeB, bs_size, bs_list, digL_len, digL_dig]
theorem chk7 (b : ByteArray) : chkD (bs (digL b 7)) = (10 - sumG b 7 % 10) % 10 := by
  unfold chkD; rw [if_pos (code_digs _ (digL_code b)), bs_list, digL_sum]
/-- The bars of the digits that are read are the bars themselves. -/
theorem bars_eq (b : ByteArray) (h42 : b.size = 42) (h : ∀ i, i < 7 → 0 ≤ gd b i) :
    (bs (barsL (bs (digL b 7))) = b) ↔ (b.data.toList[0]? = some 124 ∧ b.data.toList[41]? = some 124 ∧ gd b 7 = chkD (bs (digL b 7))) := by
  obtain ⟨l, hl⟩ : ∃ l, b.data.toList = l := ⟨_, rfl⟩
  have hlen : l.length = 42 := by rw [← hl, Array.length_toList]; exact h42
  obtain ⟨c0, c9⟩ := chk_range (bs (digL b 7)) (code_digs _ (digL_code b))
  have hbl := barL_len (chkD (bs (digL b 7))).toNat (by omega)
  have hF := digL_bars b 7 h
  rw [hl] at hF
  have hFl : ((l.drop 1).take (5 * 7)).length = 35 := by simp [hlen]
  have e : barsL (bs (digL b 7)) = ([124] ++ (l.drop 1).take (5 * 7)) ++ barL (chkD (bs (digL b 7))).toNat ++ [124] := by
    unfold barsL; rw [bs_list, hF]
  have hA : ([124] ++ (l.drop 1).take (5 * 7)).length = 36 := by rw [List.length_append, hFl]; rfl
  have hg : gd b 7 = barsD ((l.drop 36).take 5) := by unfold gd; rw [grp_list, hl]
  have hb : (bs (barsL (bs (digL b 7))) = b) ↔ barsL (bs (digL b 7)) = l := by
    constructor
    · intro h; rw [← hl, ← h, bs_list, h]
    · intro h; rw [h, ← hl, bs_of]
  rw [hb, hl, hg, e]
  generalize chkD (bs (digL b 7)) = c at *
  constructor
  · intro he
    refine ⟨?_, ?_, ?_⟩
    · rw [← he]; rfl
    · rw [← he, List.getElem?_append_right (by rw [List.length_append, hA, hbl]; omega), List.length_append, hA, hbl]; rfl
    · rw [← he, List.append_assoc, List.drop_left' hA, List.take_left' hbl, barsD_barL _ (by omega)]; omega
  · rintro ⟨h0, h1, hc⟩
    have hgl : barL c.toNat = (l.drop 36).take 5 := by
      rw [← hc]; exact (barsD_eq _ (by omega)).symm
    have e1 : l.take 1 = [124] := by
      match l, hlen with
      | x :: l', _ => simp at h0; simp [h0]
    have e2 : l.drop 41 = [124] := by
      have h41 : 41 < l.length := by omega
      rw [List.drop_eq_getElem_cons h41]
      rw [List.getElem?_eq_getElem h41] at h1
      injection h1 with h1
      rw [h1, List.drop_eq_nil_of_le (by omega)]
    rw [hgl, ← e1]
    conv => lhs; rhs; rw [e1, ← e2]
    have s1 : l.take 1 ++ (l.drop 1).take (5 * 7) = l.take 36 := by
      rw [show (36 : Nat) = 1 + 5 * 7 from rfl, List.take_add]
    have s2 : l.take 36 ++ (l.drop 36).take 5 = l.take 41 := by
      rw [show (41 : Nat) = 36 + 5 from rfl, List.take_add]
    rw [s1, s2]
    exact List.take_append_drop 41 l
/-- What the reference's ReadBars finds. -/
theorem read_ways (b : ByteArray) (h42 : b.size = 42) (h : ∀ i, i < 7 → 0 ≤ gd b i) :
    (bs (barsL (bs (digL b 7))) = b ∧ readO b = some (digL b 7)) ∨ (¬ bs (barsL (bs (digL b 7))) = b ∧ readO b = none) := by
  have hiff := bars_eq b h42 h
  rw [chk7] at hiff
  have hs : sumG b 8 = sumG b 7 + pos (gd b 7) := rfl
  have hr := sumG_range b 7
  have hg := gd_lo b 7
  by_cases he : bs (barsL (bs (digL b 7))) = b
  · left
    refine ⟨he, ?_⟩
    obtain ⟨h0, h1, h7⟩ := hiff.1 he
    have hall : ∀ i, i < 8 → 0 ≤ gd b i := by
      intro i hi
      by_cases e : i = 7
      · subst e; omega
      · exact h i (by omega)
    rw [readO_yes b h42 h0 h1 hall, recO_all b h42 hall, if_pos]
    rw [hs, pos, if_neg (by omega)]; omega
  · right
    refine ⟨he, ?_⟩
    unfold readO
    split
    · rename_i hc
      obtain ⟨_, h0, h1, hall⟩ := hc
      rw [recO_all b h42 hall, if_neg]
      intro hz
      apply he
      apply hiff.2
      refine ⟨h0, h1, ?_⟩
      have := hall 7 (by omega)
      rw [hs, pos, if_neg (by omega)] at hz
      omega
    · rfl

set_option maxHeartbeats 4000000 in
theorem impl_ReadBars (b : ByteArray) (w : World) (hT : Tab w) :
    Calls Tryd.prog 19 #[.string b] w fun e w' => e = .returned (optV (readO b)) ∧ Below w.heap.size w w' := by
  have HT := Lib.hid hT
  clear hT
  by_cases h42 : b.size = 42
  · have H42 := Lib.hid h42
    have n42 : ((b.size : Int) != 42) = false := by simp; omega
    have j0 : (0 : Int) < (b.size : Int) := by omega
    have j41 : (41 : Int) < (b.size : Int) := by omega
    have b0 : 0 < b.size := by omega
    have b41 : 41 < b.size := by omega
    have g0 : b.data.toList[0]? = some b[0] := by rw [List.getElem?_eq_getElem (by rw [Array.length_toList]; exact b0)]; rfl
    have g41 : b.data.toList[41]? = some b[41] := by rw [List.getElem?_eq_getElem (by rw [Array.length_toList]; exact b41)]; rfl
    have G0 := Lib.hid g0
    have G41 := Lib.hid g41
    clear h42 g0 g41
    have hu : ∀ c : UInt8, ¬ c = 124 → ((c.toNat : Int) != 124) = true := fun c hc => by
      simp only [bne_iff_ne]; intro he; apply hc; apply UInt8.toNat_inj.1; show c.toNat = 124; omega
    by_cases d0 : b[0] = 124
    · have m0 : ((b[0].toNat : Int) != 124) = false := by rw [d0]; rfl
      have D0 := Lib.hid d0
      clear d0
      by_cases d41 : b[41] = 124
      · have m41 : ((b[41].toNat : Int) != 124) = false := by rw [d41]; rfl
        have D41 := Lib.hid d41
        clear d41 hu
        go_enter Tryd.func19, Tryd.ntmps19
        go_wp2_with fail
        go_loop [4] (fun i => ∃ k : Nat, k ≤ 8 ∧ i = .int .i64 k ∧ ∀ j, j < k → 0 ≤ gd b j) (fun i => 8 - (intOf i).toNat)
        case atStart => exact ⟨0, by omega, rfl, fun j hj => by omega⟩
        case round =>
          obtain ⟨k, hk, rfl, hall⟩ := hrel
          have HA := Lib.hid hall
          clear hall
          by_cases hlt : k < 8
          · by_cases hneg : gd b k < 0
            · have HN := Lib.hid (show readO b = none from by
                unfold readO; rw [if_neg]; rintro ⟨_, _, _, h⟩; have := h k hlt; omega)
              go_wp2_with (go_at_call 41; refine (impl_groupDigit _ _ _ H42.out hlt HT.out).mono ?_; rintro e w1 ⟨rfl, rfl⟩)
              go_ret2
              exact ⟨ret_val (by rw [HN.out]; rfl), (by repeat (first | exact Below.refl _ _ | assumption | refine ext_alloc ?_ _ | refine Below.drew ?_ | refine below_drewN' ?_ _ | refine ext_set ?_ (by first | (simp; done) | (simp; omega) | omega) _ | refine ext_trans ?_ (by assumption)))⟩
            · go_wp2_with (go_at_call 41; refine (impl_groupDigit _ _ _ H42.out hlt HT.out).mono ?_; rintro e w1 ⟨rfl, rfl⟩)
              go_round
              case rel => exact ⟨k + 1, by omega, by go_num, fun j hj => by by_cases e : j = k; (subst e; omega); exact HA.out j (by omega)⟩
              case measure => simp [intOf]; omega
          · have HR := Lib.hid (readO_yes b H42.out (by rw [G0.out, D0.out]) (by rw [G41.out, D41.out]) (fun i hi => HA.out i (by omega)))
            obtain ⟨rc, ok, hrc⟩ : ∃ (rc : ByteArray) (ok : Bool), optV (recO b) = .tuple #[.string rc, .bool ok] := by
              cases recO b with
              | none => exact ⟨_, _, rfl⟩
              | some l => exact ⟨_, _, rfl⟩
            have HRC := Lib.hid hrc
            clear hrc
            go_wp2_with (go_at_call 17; refine (impl_RecoverBars _ _ HT.out).mono ?_; rintro e w1 ⟨rfl, hb1⟩; rw [HRC.out])
            go_ret2
            exact ⟨ret_val (by rw [HR.out, HRC.out]; rfl), (by repeat (first | exact Below.refl _ _ | assumption | refine ext_alloc ?_ _ | refine Below.drew ?_ | refine below_drewN' ?_ _ | refine ext_set ?_ (by first | (simp; done) | (simp; omega) | omega) _ | refine ext_trans ?_ (by assumption)))⟩
      · have m41 := hu _ d41
        have HN := Lib.hid (show readO b = none from by
          unfold readO; rw [if_neg]; rintro ⟨_, _, h, _⟩; rw [G41.out] at h; injection h with h; exact d41 h)
        clear d41 hu
        go_enter Tryd.func19, Tryd.ntmps19
        go_wp2_with fail
        go_ret2
        exact ⟨ret_val (by rw [HN.out]; rfl), (by repeat (first | exact Below.refl _ _ | assumption | refine ext_alloc ?_ _ | refine Below.drew ?_ | refine below_drewN' ?_ _ | refine ext_set ?_ (by first | (simp; done) | (simp; omega) | omega) _ | refine ext_trans ?_ (by assumption)))⟩
    · have m0 := hu _ d0
      have HN := Lib.hid (show readO b = none from by
        unfold readO; rw [if_neg]; rintro ⟨_, h, _, _⟩; rw [G0.out] at h; injection h with h; exact d0 h)
      clear d0 hu
      go_enter Tryd.func19, Tryd.ntmps19
      go_wp2_with fail
      go_ret2
      exact ⟨ret_val (by rw [HN.out]; rfl), (by repeat (first | exact Below.refl _ _ | assumption | refine ext_alloc ?_ _ | refine Below.drew ?_ | refine below_drewN' ?_ _ | refine ext_set ?_ (by first | (simp; done) | (simp; omega) | omega) _ | refine ext_trans ?_ (by assumption)))⟩
  · have HN := Lib.hid (show readO b = none from by unfold readO; rw [if_neg]; rintro ⟨h, _⟩; exact h42 h)
    have n42 : ((b.size : Int) != 42) = true := by simp; omega
    clear h42
    go_enter Tryd.func19, Tryd.ntmps19
    go_wp2_with fail
    go_ret2
    exact ⟨ret_val (by rw [HN.out]; rfl), (by repeat (first | exact Below.refl _ _ | assumption | refine ext_alloc ?_ _ | refine Below.drew ?_ | refine below_drewN' ?_ _ | refine ext_set ?_ (by first | (simp; done) | (simp; omega) | omega) _ | refine ext_trans ?_ (by assumption)))⟩

theorem gd_list2 (b : ByteArray) (k : Nat) : barsD (List.take 5 (List.drop (1 + 5 * k) b.data.toList)) = gd b k := by
  unfold gd; rw [grp_list]

set_option maxHeartbeats 4000000 in
theorem spec_ReadBars (b : ByteArray) (w : World) :
    Calls Tryd.prog 18 #[.string b] w fun e w' => e = .returned (optV (readO b)) ∧ Below w.heap.size w w' := by
  by_cases h42 : b.size = 42
  · have H42 := Lib.hid h42
    have n42 : ((b.size : Int) != 42) = false := by simp; omega
    have b42 : 42 ≤ b.size := by omega
    have b42' : b.size ≤ 42 := by omega
    clear h42
    go_enter Tryd.func18, Tryd.ntmps18
    go_wp2_with fail
    go_loopw [4, 5, 6] (fun c i d wr => ∃ k : Nat, k ≤ 7 ∧ i = .int .i64 (1 + 5 * (k : Int)) ∧ c = .string (bs (digL b k)) ∧ (∀ j, j < k → 0 ≤ gd b j) ∧ Below w.heap.size w wr) (fun _ i _ _ => 36 - (intOf i).toNat)
    case atStart => exact ⟨0, by omega, rfl, rfl, fun j hj => by omega, Below.refl _ _⟩
    case round =>
      obtain ⟨k, hk, rfl, rfl, hall, hbel⟩ := hrel
      have HA := Lib.hid hall
      clear hall
      have hdz : (bs (digL b k)).size ≤ k := by rw [bs_size, digL_len]; omega
      have hdz2 : k ≤ (bs (digL b k)).size := by rw [bs_size, digL_len]; omega
      by_cases hlt : k < 7
      · have hgl := gd_lo b k
        obtain ⟨d, hd⟩ : ∃ d, gd b k = d := ⟨_, rfl⟩
        rw [hd] at hgl
        have HD := Lib.hid hd
        clear hd
        have HG := Lib.hid (show barsD (b.extract (1 + 5 * k) (1 + 5 * k + 5)).data.toList = d from by
          rw [Lib.extract_data, show 1 + 5 * k + 5 - (1 + 5 * k) = 5 by omega, gd_list2]; exact HD.out)
        have hs2 : (1 : Int) + 5 * (k : Int) + 5 ≤ (b.size : Int) := by omega
        have hno : ∀ c : UInt8, ¬ 9223372036854775807 < (bs (digL b k)).size + (bs [c]).size := fun c => by have : (bs [c]).size = 1 := rfl; omega
        have h36 : (1 : Int) + 5 * (k : Int) < 36 := by omega
        by_cases hneg : d < 0
        · have HN := Lib.hid (show readO b = none from by
            unfold readO; rw [if_neg]; rintro ⟨_, _, _, h⟩; have := h k (by omega); rw [HD.out] at this; omega)
          go_wp2_with (go_at_call 28; refine (spec_BarsDigit _ _).mono ?_; rintro e w1 ⟨rfl, hb1⟩; rw [HG.out])
          go_ret2
          exact ⟨ret_val (by rw [HN.out]; rfl), (by repeat (first | exact Below.refl _ _ | assumption | refine ext_alloc ?_ _ | refine Below.drew ?_ | refine below_drewN' ?_ _ | refine ext_set ?_ (by first | (simp; done) | (simp; omega) | omega) _ | refine ext_trans ?_ (by assumption)))⟩
        · have HDL := Lib.hid (show digL b (k + 1) = digL b k ++ [dgB d] from by rw [digL_succ, HD.out, pos, if_neg hneg])
          go_wp2_with (first | (go_at_call 28; refine (spec_BarsDigit _ _).mono ?_; rintro e w1 ⟨rfl, hb1⟩; rw [HG.out]) | (go_at_call 39; refine (l9Dec_one _ _ (by omega) (by omega)).mono ?_; rintro e w2 ⟨rfl, hb2⟩))
          go_roundw
          case rel => exact ⟨k + 1, by omega, by go_num, congrArg Value.string (by rw [bs_append, HDL.out]), fun j hj => by by_cases e : j = k; (subst e; rw [HD.out]; omega); exact HA.out j (by omega), (by repeat (first | exact Below.refl _ _ | assumption | refine ext_alloc ?_ _ | refine Below.drew ?_ | refine below_drewN' ?_ _ | refine ext_set ?_ (by first | (simp; done) | (simp; omega) | omega) _ | refine ext_trans ?_ (by assumption)))⟩
          case measure => simp [intOf]; omega
      · obtain rfl : k = 7 := by omega
        obtain ⟨cs, hcs⟩ : ∃ cs, bs (digL b 7) = cs := ⟨_, rfl⟩
        have HBV := Lib.hid (show barsV cs = .tuple #[.string (bs (barsL cs)), .bool true] from by simp [barsV, ← hcs, digL_code])
        have hw := read_ways b H42.out HA.out
        rw [hcs] at hw hdz hdz2 ⊢
        have hcm : cs.size ≤ maxLen := by unfold maxLen; omega
        have hge : ¬ (1 : Int) + 5 * ((7 : Nat) : Int) < 36 := by omega
        have HCS := Lib.hid hcs
        clear hcs
        rcases hw with ⟨he, hr⟩ | ⟨he, hr⟩
        · have HE := Lib.hid he
          have HR := Lib.hid hr
          clear he hr
          go_wp2_with (go_at_call 14; refine (spec_BarsOf _ _ hcm).mono ?_; rintro e w1 ⟨rfl, hb1⟩; rw [HBV.out, HE.out])
          go_ret2
          exact ⟨ret_val (by rw [HR.out, ← HCS.out]; rfl), (by repeat (first | exact Below.refl _ _ | assumption | refine ext_alloc ?_ _ | refine Below.drew ?_ | refine below_drewN' ?_ _ | refine ext_set ?_ (by first | (simp; done) | (simp; omega) | omega) _ | refine ext_trans ?_ (by assumption)))⟩
        · obtain ⟨bb, hbb⟩ : ∃ bb, bs (barsL cs) = bb := ⟨_, rfl⟩
          have hne : (bb.toList == b.toList) = false := by
            rw [← hbb]
            simp only [beq_eq_false_iff_ne, ByteArray.toList_eq]
            intro e; exact he (by rw [← bs_of b, ← e, bs_list])
          have HBB := Lib.hid hbb
          have HR := Lib.hid hr
          clear he hr hbb
          go_wp2_with (go_at_call 14; refine (spec_BarsOf _ _ hcm).mono ?_; rintro e w1 ⟨rfl, hb1⟩; rw [HBV.out, HBB.out])
          go_ret2
          exact ⟨ret_val (by rw [HR.out]; rfl), (by repeat (first | exact Below.refl _ _ | assumption | refine ext_alloc ?_ _ | refine Below.drew ?_ | refine below_drewN' ?_ _ | refine ext_set ?_ (by first | (simp; done) | (simp; omega) | omega) _ | refine ext_trans ?_ (by assumption)))⟩
  · have HN := Lib.hid (show readO b = none from by unfold readO; rw [if_neg]; rintro ⟨h, _⟩; exact h42 h)
    have n42 : ((b.size : Int) != 42) = true := by simp; omega
    clear h42
    go_enter Tryd.func18, Tryd.ntmps18
    go_wp2_with fail
    go_ret2
    exact ⟨ret_val (by rw [HN.out]; rfl), (by repeat (first | exact Below.refl _ _ | assumption | refine ext_alloc ?_ _ | refine Below.drew ?_ | refine below_drewN' ?_ _ | refine ext_set ?_ (by first | (simp; done) | (simp; omega) | omega) _ | refine ext_trans ?_ (by assumption)))⟩

/-- What ReadEither answers. -/
def eitherV (b : ByteArray) : Value := match readO b, readO (turnS b) with
  | some c, none => .tuple #[.string (bs c), .bool false, .bool true]
  | none, some d => .tuple #[.string (bs d), .bool true, .bool true]
  | _, _ => .tuple #[.string ⟨#[]⟩, .bool false, .bool false]

set_option maxHeartbeats 2000000 in
theorem impl_ReadEither (b : ByteArray) (w : World) (hs : b.size ≤ 1048576) (hT : Tab w) :
    Calls Tryd.prog 21 #[.string b] w fun e w' => e = .returned (eitherV b) ∧ Below w.heap.size w w' := by
  have HT := Lib.hid hT
  clear hT
  cases h1 : readO b with
  | none =>
    have H1 := Lib.hid (show optV (readO b) = .tuple #[.string ⟨#[]⟩, .bool false] from by rw [h1]; rfl)
    cases h2 : readO (turnS b) with
    | none =>
      have H2 := Lib.hid (show optV (readO (turnS b)) = .tuple #[.string ⟨#[]⟩, .bool false] from by rw [h2]; rfl)
      have H := Lib.hid (show eitherV b = .tuple #[.string ⟨#[]⟩, .bool false, .bool false] from by unfold eitherV; rw [h1, h2])
      clear h1 h2
      go_enter Tryd.func21, Tryd.ntmps21
      go_wp2_with fail
      refine (impl_ReadBars _ _ HT.out).mono ?_
      rintro e w1 ⟨rfl, hb1⟩
      rw [H1.out]
      go_wp2_with fail
      refine (impl_TurnBars _ _ hs).mono ?_
      rintro e w2 ⟨rfl, hb2⟩
      go_wp2_with fail
      refine (impl_ReadBars _ _ ((HT.out.ext hb1).ext hb2)).mono ?_
      rintro e w3 ⟨rfl, hb3⟩
      rw [H2.out]
      go_wp2_with fail
      go_ret3
      exact ⟨ret_val H.out.symm, (by repeat (first | exact Below.refl _ _ | assumption | refine ext_alloc ?_ _ | refine Below.drew ?_ | refine below_drewN' ?_ _ | refine ext_set ?_ (by first | (simp; done) | (simp; omega) | omega) _ | refine ext_trans ?_ (by assumption)))⟩
    | some d =>
      have H2 := Lib.hid (show optV (readO (turnS b)) = .tuple #[.string (bs d), .bool true] from by rw [h2]; rfl)
      have H := Lib.hid (show eitherV b = .tuple #[.string (bs d), .bool true, .bool true] from by unfold eitherV; rw [h1, h2])
      clear h1 h2
      go_enter Tryd.func21, Tryd.ntmps21
      go_wp2_with fail
      refine (impl_ReadBars _ _ HT.out).mono ?_
      rintro e w1 ⟨rfl, hb1⟩
      rw [H1.out]
      go_wp2_with fail
      refine (impl_TurnBars _ _ hs).mono ?_
      rintro e w2 ⟨rfl, hb2⟩
      go_wp2_with fail
      refine (impl_ReadBars _ _ ((HT.out.ext hb1).ext hb2)).mono ?_
      rintro e w3 ⟨rfl, hb3⟩
      rw [H2.out]
      go_wp2_with fail
      go_ret3
      exact ⟨ret_val H.out.symm, (by repeat (first | exact Below.refl _ _ | assumption | refine ext_alloc ?_ _ | refine Below.drew ?_ | refine below_drewN' ?_ _ | refine ext_set ?_ (by first | (simp; done) | (simp; omega) | omega) _ | refine ext_trans ?_ (by assumption)))⟩
  | some c =>
    have H1 := Lib.hid (show optV (readO b) = .tuple #[.string (bs c), .bool true] from by rw [h1]; rfl)
    cases h2 : readO (turnS b) with
    | none =>
      have H2 := Lib.hid (show optV (readO (turnS b)) = .tuple #[.string ⟨#[]⟩, .bool false] from by rw [h2]; rfl)
      have H := Lib.hid (show eitherV b = .tuple #[.string (bs c), .bool false, .bool true] from by unfold eitherV; rw [h1, h2])
      clear h1 h2
      go_enter Tryd.func21, Tryd.ntmps21
      go_wp2_with fail
      refine (impl_ReadBars _ _ HT.out).mono ?_
      rintro e w1 ⟨rfl, hb1⟩
      rw [H1.out]
      go_wp2_with fail
      refine (impl_TurnBars _ _ hs).mono ?_
      rintro e w2 ⟨rfl, hb2⟩
      go_wp2_with fail
      refine (impl_ReadBars _ _ ((HT.out.ext hb1).ext hb2)).mono ?_
      rintro e w3 ⟨rfl, hb3⟩
      rw [H2.out]
      go_wp2_with fail
      go_ret3
      exact ⟨ret_val H.out.symm, (by repeat (first | exact Below.refl _ _ | assumption | refine ext_alloc ?_ _ | refine Below.drew ?_ | refine below_drewN' ?_ _ | refine ext_set ?_ (by first | (simp; done) | (simp; omega) | omega) _ | refine ext_trans ?_ (by assumption)))⟩
    | some d =>
      have H2 := Lib.hid (show optV (readO (turnS b)) = .tuple #[.string (bs d), .bool true] from by rw [h2]; rfl)
      have H := Lib.hid (show eitherV b = .tuple #[.string ⟨#[]⟩, .bool false, .bool false] from by unfold eitherV; rw [h1, h2])
      clear h1 h2
      go_enter Tryd.func21, Tryd.ntmps21
      go_wp2_with fail
      refine (impl_ReadBars _ _ HT.out).mono ?_
      rintro e w1 ⟨rfl, hb1⟩
      rw [H1.out]
      go_wp2_with fail
      refine (impl_TurnBars _ _ hs).mono ?_
      rintro e w2 ⟨rfl, hb2⟩
      go_wp2_with fail
      refine (impl_ReadBars _ _ ((HT.out.ext hb1).ext hb2)).mono ?_
      rintro e w3 ⟨rfl, hb3⟩
      rw [H2.out]
      go_wp2_with fail
      go_ret3
      exact ⟨ret_val H.out.symm, (by repeat (first | exact Below.refl _ _ | assumption | refine ext_alloc ?_ _ | refine Below.drew ?_ | refine below_drewN' ?_ _ | refine ext_set ?_ (by first | (simp; done) | (simp; omega) | omega) _ | refine ext_trans ?_ (by assumption)))⟩

set_option maxHeartbeats 2000000 in
theorem spec_ReadEither (b : ByteArray) (w : World) (hs : b.size ≤ 1048576) :
    Calls Tryd.prog 20 #[.string b] w fun e w' => e = .returned (eitherV b) ∧ Below w.heap.size w w' := by
  cases h1 : readO b with
  | none =>
    have H1 := Lib.hid (show optV (readO b) = .tuple #[.string ⟨#[]⟩, .bool false] from by rw [h1]; rfl)
    cases h2 : readO (turnS b) with
    | none =>
      have H2 := Lib.hid (show optV (readO (turnS b)) = .tuple #[.string ⟨#[]⟩, .bool false] from by rw [h2]; rfl)
      have H := Lib.hid (show eitherV b = .tuple #[.string ⟨#[]⟩, .bool false, .bool false] from by unfold eitherV; rw [h1, h2])
      clear h1 h2
      go_enter Tryd.func20, Tryd.ntmps20
      go_wp2_with fail
      refine (spec_ReadBars _ _).mono ?_
      rintro e w1 ⟨rfl, hb1⟩
      rw [H1.out]
      go_wp2_with fail
      refine (spec_TurnBars _ _ hs).mono ?_
      rintro e w2 ⟨rfl, hb2⟩
      go_wp2_with fail
      refine (spec_ReadBars _ _).mono ?_
      rintro e w3 ⟨rfl, hb3⟩
      rw [H2.out]
      go_wp2_with fail
      go_ret3
      exact ⟨ret_val H.out.symm, (by repeat (first | exact Below.refl _ _ | assumption | refine ext_alloc ?_ _ | refine Below.drew ?_ | refine below_drewN' ?_ _ | refine ext_set ?_ (by first | (simp; done) | (simp; omega) | omega) _ | refine ext_trans ?_ (by assumption)))⟩
    | some d =>
      have H2 := Lib.hid (show optV (readO (turnS b)) = .tuple #[.string (bs d), .bool true] from by rw [h2]; rfl)
      have H := Lib.hid (show eitherV b = .tuple #[.string (bs d), .bool true, .bool true] from by unfold eitherV; rw [h1, h2])
      clear h1 h2
      go_enter Tryd.func20, Tryd.ntmps20
      go_wp2_with fail
      refine (spec_ReadBars _ _).mono ?_
      rintro e w1 ⟨rfl, hb1⟩
      rw [H1.out]
      go_wp2_with fail
      refine (spec_TurnBars _ _ hs).mono ?_
      rintro e w2 ⟨rfl, hb2⟩
      go_wp2_with fail
      refine (spec_ReadBars _ _).mono ?_
      rintro e w3 ⟨rfl, hb3⟩
      rw [H2.out]
      go_wp2_with fail
      go_ret3
      exact ⟨ret_val H.out.symm, (by repeat (first | exact Below.refl _ _ | assumption | refine ext_alloc ?_ _ | refine Below.drew ?_ | refine below_drewN' ?_ _ | refine ext_set ?_ (by first | (simp; done) | (simp; omega) | omega) _ | refine ext_trans ?_ (by assumption)))⟩
  | some c =>
    have H1 := Lib.hid (show optV (readO b) = .tuple #[.string (bs c), .bool true] from by rw [h1]; rfl)
    cases h2 : readO (turnS b) with
    | none =>
      have H2 := Lib.hid (show optV (readO (turnS b)) = .tuple #[.string ⟨#[]⟩, .bool false] from by rw [h2]; rfl)
      have H := Lib.hid (show eitherV b = .tuple #[.string (bs c), .bool false, .bool true] from by unfold eitherV; rw [h1, h2])
      clear h1 h2
      go_enter Tryd.func20, Tryd.ntmps20
      go_wp2_with fail
      refine (spec_ReadBars _ _).mono ?_
      rintro e w1 ⟨rfl, hb1⟩
      rw [H1.out]
      go_wp2_with fail
      refine (spec_TurnBars _ _ hs).mono ?_
      rintro e w2 ⟨rfl, hb2⟩
      go_wp2_with fail
      refine (spec_ReadBars _ _).mono ?_
      rintro e w3 ⟨rfl, hb3⟩
      rw [H2.out]
      go_wp2_with fail
      go_ret3
      exact ⟨ret_val H.out.symm, (by repeat (first | exact Below.refl _ _ | assumption | refine ext_alloc ?_ _ | refine Below.drew ?_ | refine below_drewN' ?_ _ | refine ext_set ?_ (by first | (simp; done) | (simp; omega) | omega) _ | refine ext_trans ?_ (by assumption)))⟩
    | some d =>
      have H2 := Lib.hid (show optV (readO (turnS b)) = .tuple #[.string (bs d), .bool true] from by rw [h2]; rfl)
      have H := Lib.hid (show eitherV b = .tuple #[.string ⟨#[]⟩, .bool false, .bool false] from by unfold eitherV; rw [h1, h2])
      clear h1 h2
      go_enter Tryd.func20, Tryd.ntmps20
      go_wp2_with fail
      refine (spec_ReadBars _ _).mono ?_
      rintro e w1 ⟨rfl, hb1⟩
      rw [H1.out]
      go_wp2_with fail
      refine (spec_TurnBars _ _ hs).mono ?_
      rintro e w2 ⟨rfl, hb2⟩
      go_wp2_with fail
      refine (spec_ReadBars _ _).mono ?_
      rintro e w3 ⟨rfl, hb3⟩
      rw [H2.out]
      go_wp2_with fail
      go_ret3
      exact ⟨ret_val H.out.symm, (by repeat (first | exact Below.refl _ _ | assumption | refine ext_alloc ?_ _ | refine Below.drew ?_ | refine below_drewN' ?_ _ | refine ext_set ?_ (by first | (simp; done) | (simp; omega) | omega) _ | refine ext_trans ?_ (by assumption)))⟩

theorem eitherV_form (b : ByteArray) : ∃ (c : ByteArray) (x y : Bool), eitherV b = .tuple #[.string c, .bool x, .bool y] := by
  unfold eitherV; split
  · exact ⟨_, _, _, rfl⟩
  · exact ⟨_, _, _, rfl⟩
  · exact ⟨_, _, _, rfl⟩
theorem optV_form (o : Option (List UInt8)) : ∃ (c : ByteArray) (x : Bool), optV o = .tuple #[.string c, .bool x] := by
  cases o with
  | none => exact ⟨_, _, rfl⟩
  | some l => exact ⟨_, _, rfl⟩
theorem barsV_form (s : ByteArray) : ∃ (c : ByteArray) (x : Bool), barsV s = .tuple #[.string c, .bool x] := by
  unfold barsV; split
  · exact ⟨_, _, rfl⟩
  · exact ⟨_, _, rfl⟩

set_option maxHeartbeats 1000000 in
theorem law_FnExactBarsOf (s : ByteArray) (w : World) (hs : s.size ≤ maxLen) (hT : Tab w) :
    Calls Tryd.prog 3 #[.string s] w fun e w' => e = .returned (.bool true) ∧ Below w.heap.size w w' := by
  have HT := Lib.hid hT
  clear hT
  by_cases hb : s.size ≤ 1048576
  · obtain ⟨c, x, hcv⟩ := barsV_form s
    have HV := Lib.hid hcv
    clear hcv
    go_enter Tryd.func3, Tryd.ntmps3
    go_wp2_with fail
    refine (spec_BarsOf _ _ hs).mono ?_
    rintro e w1 ⟨rfl, hb1⟩
    rw [HV.out]
    go_wp2_with fail
    refine (impl_BarsOf _ _ hs (HT.out.ext hb1)).mono ?_
    rintro e w2 ⟨rfl, hb2⟩
    rw [HV.out]
    go_wp2_with fail
    go_ret
    exact ⟨rfl, (by rw [← hb2]; exact hb1)⟩
  · go_enter Tryd.func3, Tryd.ntmps3
    go_wp2_with fail
    go_ret
    exact ⟨rfl, (by repeat (first | exact Below.refl _ _ | assumption | refine ext_alloc ?_ _ | refine Below.drew ?_ | refine below_drewN' ?_ _ | refine ext_set ?_ (by first | (simp; done) | (simp; omega) | omega) _ | refine ext_trans ?_ (by assumption)))⟩

set_option maxHeartbeats 1000000 in
theorem law_FnExactRecoverBars (s : ByteArray) (w : World) (_ : s.size ≤ maxLen) (hT : Tab w) :
    Calls Tryd.prog 4 #[.string s] w fun e w' => e = .returned (.bool true) ∧ Below w.heap.size w w' := by
  have HT := Lib.hid hT
  clear hT
  by_cases hb : s.size ≤ 1048576
  · obtain ⟨c, x, hcv⟩ := optV_form (recO s)
    have HV := Lib.hid hcv
    clear hcv
    go_enter Tryd.func4, Tryd.ntmps4
    go_wp2_with fail
    refine (spec_RecoverBars _ _).mono ?_
    rintro e w1 ⟨rfl, hb1⟩
    rw [HV.out]
    go_wp2_with fail
    refine (impl_RecoverBars _ _ (HT.out.ext hb1)).mono ?_
    rintro e w2 ⟨rfl, hb2⟩
    rw [HV.out]
    go_wp2_with fail
    go_ret
    exact ⟨rfl, (by repeat (first | exact Below.refl _ _ | assumption | refine ext_alloc ?_ _ | refine Below.drew ?_ | refine below_drewN' ?_ _ | refine ext_set ?_ (by first | (simp; done) | (simp; omega) | omega) _ | refine ext_trans ?_ (by assumption)))⟩
  · go_enter Tryd.func4, Tryd.ntmps4
    go_wp2_with fail
    go_ret
    exact ⟨rfl, (by repeat (first | exact Below.refl _ _ | assumption | refine ext_alloc ?_ _ | refine Below.drew ?_ | refine below_drewN' ?_ _ | refine ext_set ?_ (by first | (simp; done) | (simp; omega) | omega) _ | refine ext_trans ?_ (by assumption)))⟩

set_option maxHeartbeats 1000000 in
theorem law_FnExactReadBars (s : ByteArray) (w : World) (_ : s.size ≤ maxLen) (hT : Tab w) :
    Calls Tryd.prog 5 #[.string s] w fun e w' => e = .returned (.bool true) ∧ Below w.heap.size w w' := by
  have HT := Lib.hid hT
  clear hT
  by_cases hb : s.size ≤ 1048576
  · obtain ⟨c, x, hcv⟩ := optV_form (readO s)
    have HV := Lib.hid hcv
    clear hcv
    go_enter Tryd.func5, Tryd.ntmps5
    go_wp2_with fail
    refine (spec_ReadBars _ _).mono ?_
    rintro e w1 ⟨rfl, hb1⟩
    rw [HV.out]
    go_wp2_with fail
    refine (impl_ReadBars _ _ (HT.out.ext hb1)).mono ?_
    rintro e w2 ⟨rfl, hb2⟩
    rw [HV.out]
    go_wp2_with fail
    go_ret
    exact ⟨rfl, (by repeat (first | exact Below.refl _ _ | assumption | refine ext_alloc ?_ _ | refine Below.drew ?_ | refine below_drewN' ?_ _ | refine ext_set ?_ (by first | (simp; done) | (simp; omega) | omega) _ | refine ext_trans ?_ (by assumption)))⟩
  · go_enter Tryd.func5, Tryd.ntmps5
    go_wp2_with fail
    go_ret
    exact ⟨rfl, (by repeat (first | exact Below.refl _ _ | assumption | refine ext_alloc ?_ _ | refine Below.drew ?_ | refine below_drewN' ?_ _ | refine ext_set ?_ (by first | (simp; done) | (simp; omega) | omega) _ | refine ext_trans ?_ (by assumption)))⟩

set_option maxHeartbeats 1000000 in
theorem law_FnExactReadEither (s : ByteArray) (w : World) (_ : s.size ≤ maxLen) (hT : Tab w) :
    Calls Tryd.prog 6 #[.string s] w fun e w' => e = .returned (.bool true) ∧ Below w.heap.size w w' := by
  have HT := Lib.hid hT
  clear hT
  by_cases hb : s.size ≤ 1048576
  · obtain ⟨c, x, y, hcv⟩ := eitherV_form s
    have HV := Lib.hid hcv
    clear hcv
    go_enter Tryd.func6, Tryd.ntmps6
    go_wp2_with fail
    refine (spec_ReadEither _ _ hb).mono ?_
    rintro e w1 ⟨rfl, hb1⟩
    rw [HV.out]
    go_wp2_with fail
    refine (impl_ReadEither _ _ hb (HT.out.ext hb1)).mono ?_
    rintro e w2 ⟨rfl, hb2⟩
    rw [HV.out]
    go_wp2_with fail
    go_ret
    exact ⟨rfl, (by repeat (first | exact Below.refl _ _ | assumption | refine ext_alloc ?_ _ | refine Below.drew ?_ | refine below_drewN' ?_ _ | refine ext_set ?_ (by first | (simp; done) | (simp; omega) | omega) _ | refine ext_trans ?_ (by assumption)))⟩
  · go_enter Tryd.func6, Tryd.ntmps6
    go_wp2_with fail
    go_ret
    exact ⟨rfl, (by repeat (first | exact Below.refl _ _ | assumption | refine ext_alloc ?_ _ | refine Below.drew ?_ | refine below_drewN' ?_ _ | refine ext_set ?_ (by first | (simp; done) | (simp; omega) | omega) _ | refine ext_trans ?_ (by assumption)))⟩

end Go.Proofs.YtcopkapcgabkmaaDoor
