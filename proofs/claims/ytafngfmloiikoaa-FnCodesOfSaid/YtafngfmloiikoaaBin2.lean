/-
  WALKS: BinPass of the reference. By an AI agent.
-/
import Derived.Test.YtafngfmloiikoaaBin
namespace Go.Proofs.Ytafngfmloiikoaa
open Go.RowKit

attribute [local go_sem ↓] Go.wp_at_zero Go.wp_at_succ

set_option maxHeartbeats 1000000 in
theorem l2Digit_any (A : Option Addr) (n cap : Nat) (ls : List Ltr) (di : Int) (w : World) (h : LS w A n cap ls) :
    Calls Try.prog 73 #[.slice A n cap, .int .i64 di] w fun e w' => e = .returned (.bool (binOk ls di)) ∧ Below w.heap.size w w' := by
  have HL := Lib.hid h
  clear h
  cases hb : batchB ls with
  | false =>
    have H := Lib.hid (show binOk ls di = false from by simp [binOk, hb])
    have HB := Lib.hid hb
    clear hb
    go_enter Try.func73, Try.ntmps73
    go_wp2_with (go_at_call 67; refine (spec_BatchValid _ _ _ _ _ HL.out).mono ?_; rintro e w1 ⟨rfl, hb1⟩; rw [HB.out])
    go_ret
    exact ⟨ret_bool H.out.symm, (by repeat (first | exact Below.refl _ _ | assumption | refine ext_alloc ?_ _ | refine Below.drew ?_ | refine below_drewN' ?_ _ | refine ext_set ?_ (by first | (simp; done) | (simp; omega) | omega) _ | refine ext_trans ?_ (by assumption)))⟩
  | true =>
    have H := Lib.hid (show binOk ls di = (decide (0 ≤ di) && decide (di ≤ 6)) from by
      simp only [binOk, hb, Bool.true_and]; rw [Bool.eq_iff_iff]; simp; omega)
    have HB := Lib.hid hb
    clear hb
    go_enter Try.func73, Try.ntmps73
    go_wp2_with (first | (go_at_call 67; refine (spec_BatchValid _ _ _ _ _ HL.out).mono ?_; rintro e w1 ⟨rfl, hb1⟩; rw [HB.out]) | (go_at_call 91; refine (l1In_any _ _ _ _).mono ?_; rintro e w2 ⟨rfl, rfl⟩))
    go_ret
    exact ⟨ret_bool H.out.symm, (by repeat (first | exact Below.refl _ _ | assumption | refine ext_alloc ?_ _ | refine Below.drew ?_ | refine below_drewN' ?_ _ | refine ext_set ?_ (by first | (simp; done) | (simp; omega) | omega) _ | refine ext_trans ?_ (by assumption)))⟩

/-- What a function that returns bins answers. -/
def MakesSS (bss : List (List Ltr)) (w : World) (e : Ending) (w' : World) : Prop :=
  ∃ v vs, e = .returned v ∧ OwnSS w' w.heap.size v vs bss ∧ Below w.heap.size w w'

set_option maxRecDepth 100000 in
set_option maxHeartbeats 4000000 in
theorem l2Bins_any (A : Option Addr) (n cap : Nat) (ls : List Ltr) (d : Nat) (w : World) (h : LS w A n cap ls) (hB : batchB ls = true) (hdn : d < 7) :
    Calls Try.prog 74 #[.slice A n cap, .int .i64 d] w (MakesSS (binsL ls d) w) := by
  have HL := Lib.hid h
  have HLEN := Lib.hid h.1
  have HB := Lib.hid hB
  have hn60 := batch_len hB
  rw [HLEN.out] at hn60
  clear h hB
  obtain ⟨i0, hi, hz0, hz1, hz2⟩ := info_parts info_letter
  obtain ⟨cs, hcs, hmk⟩ := make_bins w
  have HO0 := Lib.hid (ownSS_new (w := w) (Nat.le_refl _) (by unfold maxLen; omega) cs hcs)
  clear hcs
  go_enter Try.func74, Try.ntmps74
  go_wp2_with fail
  clear hmk
  go_loopw [6] (fun iv wr => ∃ (k : Nat) (vs : List Value), k ≤ n ∧ iv = .int .i64 k ∧ OwnSS wr w.heap.size (.slice (some ⟨w.heap.size, 0, none⟩) 10 10) vs (binsL (ls.take k) d) ∧ Below w.heap.size w wr) (fun iv _ => n - (intOf iv).toNat)
  case atStart => exact ⟨0, _, by omega, rfl, HO0.out, (by repeat (first | exact Below.refl _ _ | assumption | refine ext_alloc ?_ _ | refine Below.drew ?_ | refine below_drewN' ?_ _ | refine ext_set ?_ (by first | (simp; done) | (simp; omega) | omega) _ | refine ext_trans ?_ (by assumption)))⟩
  case round =>
    obtain ⟨k, vs, hk, rfl, hown, hbel⟩ := hrel
    have HO := Lib.hid hown
    clear hown HO0
    by_cases hkn : k < n
    · obtain ⟨g, off, l, rfl, hl, hlm, c0, c1⟩ := (HL.out.ext hbel).at_ k hkn
      have h7 := batch_code HB.out hl
      have hdl : d < l.2.size := by omega
      obtain ⟨j, hj, hdj⟩ := batch_dig HB.out hl d hdn
      have HQ := Lib.hid (dig_eq l.2 d hdl)
      have hq : (l.2[d].toNat : Int) = (j : Int) + 48 := by rw [HQ.out, hdj]; omega
      obtain ⟨u, b, hu, hbb, hob⟩ := HO.out.get j (by rw [binsL_len]; exact hj)
      have hbe : b = binL (ls.take k) d j := by rw [binsL_at _ _ _ hj] at hbb; injection hbb with hbb; exact hbb.symm
      have HS := Lib.hid (show (binsL (ls.take k) d).set j (b ++ [l]) = binsL (ls.take (k + 1)) d from by rw [hbe, take_snoc' ls k l hl]; exact binsL_snoc _ _ _ _ hj hdj)
      have hbl : b.length ≤ 60 := by rw [hbe]; have h1 := binL_le (ls.take k) d j; have h2 := List.length_take_le k ls; omega
      have HU := Lib.hid hu
      have HBB := Lib.hid hbb
      obtain ⟨e0, f0⟩ := HO.out.cell j u hu
      have hrs := HO.out.rng
      have hgl := (hrs.1 _ rfl).2
      have hub : u.ownBlock ≠ some w.heap.size := fun he => HO.out.out j u hu _ he rfl
      have hub2 : u.ownBlock ≠ some wr.heap.size := fun he => by have := (hrs.2 j u hu _ he).2; omega
      obtain ⟨Ad, cd, rfl, _⟩ := hob.read
      have hj0 : (0 : Int) ≤ (j : Int) := by omega
      have hj1 : (j : Int) < 10 := by omega
      have hki : (k : Int) < (n : Int) := by omega
      have hsize := hbel.size
      have HOB := Lib.hid hob
      have HUB := Lib.hid hub
      have HUB2 := Lib.hid hub2
      clear hl hdj hbe hbb hu h7 hob hrs hub hub2
      go_wp2_with fail
      go_region_law ((refine step_append_lies _ (by rfl) _ _ _ (by rfl) w.heap.size 31 i0 _ 2 24 Try.underlying23 hi hz0 hz1 hz2 rfl (by omega) (.slice Ad b.length cd) b.length (cellsL b) (by rfl) (by exact (HOB.out.1.alloc _)) ⟨wr.heap.size, 0, none⟩ 1 1 [.int .i64 l.1, .string l.2] (by rfl) (by rfl) (by exact (letter_at _ l _ _ (by simp))) (letter_one l) (by omega) (by unfold maxLen; omega) (by omega) (by simp; omega) (wr.heap.size + 1) (by simp) ?_; intro gg cap' w4 hown1 hgrow hat hlt; obtain ⟨g1, g2⟩ := far_keep (w := wr) hgrow (by repeat (first | exact Below.refl _ _ | assumption | refine ext_alloc ?_ _ | refine Below.drew ?_ | refine below_drewN' ?_ _ | refine ext_set ?_ (by first | (simp; done) | (simp; omega) | omega) _ | refine ext_trans ?_ (by assumption))) HUB.out e0 f0))
      all_goals
        have HST := Lib.hid (bin_step hbel (by repeat (first | exact Below.refl _ _ | assumption | refine ext_alloc ?_ _ | refine Below.drew ?_ | refine below_drewN' ?_ _ | refine ext_set ?_ (by first | (simp; done) | (simp; omega) | omega) _ | refine ext_trans ?_ (by assumption))) HO.out HU.out HBB.out hlm hown1 hgrow hat (by omega))
        rw [HS.out] at HST
        clear hown1 hgrow hat hlt g1 g2 e0 f0
        go_wp2_with fail
        go_roundw
        case rel => exact ⟨k + 1, _, by omega, by go_num, HST.out.1, HST.out.2⟩
        case measure => simp [intOf]; omega
    · have HK := Lib.hid (show ls.take k = ls from List.take_of_length_le (by rw [HLEN.out]; omega))
      have HF := Lib.hid (show OwnSS wr w.heap.size _ vs (binsL ls d) from by have hh := HO.out; rwa [HK.out] at hh)
      have hkd : decide ((k : Int) < (n : Int)) = false := by simp; omega
      go_wp2_with fail
      go_ret
      exact ⟨_, vs, rfl, HF.out, hbel⟩

/-- An empty row just made. -/
theorem ownSS_made {w : World} {B : Nat} (hB : B ≤ w.heap.size) : OwnSS (w.alloc (.cells #[] 23)) B (.slice (some ⟨w.heap.size, 0, none⟩) 0 0) [] [] :=
  ⟨World.ownsRow_made w #[] 0 hB (by unfold maxLen; omega) rfl, fun i u b h1 => by simp at h1, fun i j a b h1 => by simp at h1, fun i u h1 => by simp at h1⟩
theorem own_made {w : World} {B : Nat} (hB : B ≤ w.heap.size) : Own (w.alloc (.cells #[] 31)) B (.slice (some ⟨w.heap.size, 0, none⟩) 0 0) [] :=
  ⟨World.ownsRow_made w #[] 0 hB (by unfold maxLen; omega) rfl, fun l hl => by cases hl⟩

set_option maxHeartbeats 1000000 in
theorem l2RawBinPass_any (A : Option Addr) (n cap : Nat) (ls : List Ltr) (di : Int) (w : World) (h : LS w A n cap ls) :
    Calls Try.prog 61 #[.slice A n cap, .int .i64 di] w (GivesSS (binsR ls di) (binOk ls di) w) := by
  have HL := Lib.hid h
  clear h
  cases hb : binOk ls di with
  | false =>
    have HB := Lib.hid hb
    clear hb
    go_enter Try.func61, Try.ntmps61
    go_wp2_with (go_at_call 73; refine (l2Digit_any _ _ _ _ _ _ HL.out).mono ?_; rintro e w1 ⟨rfl, hb1⟩; rw [HB.out])
    go_ret2
    exact ⟨_, _, rfl, by simp only [binsR, HB.out]; exact ownSS_made hb1.size, (by repeat (first | exact Below.refl _ _ | assumption | refine ext_alloc ?_ _ | refine Below.drew ?_ | refine below_drewN' ?_ _ | refine ext_set ?_ (by first | (simp; done) | (simp; omega) | omega) _ | refine ext_trans ?_ (by assumption)))⟩
  | true =>
    have hbb : batchB ls = true := by simp only [binOk, Bool.and_eq_true] at hb; exact hb.1
    have hd : 0 ≤ di ∧ di < 7 := by simp only [binOk, Bool.and_eq_true, decide_eq_true_eq] at hb; exact hb.2
    obtain ⟨d, rfl⟩ : ∃ d : Nat, di = d := ⟨di.toNat, by omega⟩
    have hd7 : d < 7 := by omega
    have HB := Lib.hid hb
    have HBB := Lib.hid hbb
    clear hb hbb hd
    go_enter Try.func61, Try.ntmps61
    go_wp2_with fail
    refine (l2Digit_any _ _ _ _ _ _ HL.out).mono ?_
    rintro e w1 ⟨rfl, hb1⟩
    rw [HB.out]
    go_wp2_with fail
    refine (l2Bins_any _ _ _ _ _ _ (HL.out.ext hb1) HBB.out hd7).mono ?_
    rintro e w2 ⟨v, vs, rfl, ho, hb2⟩
    have HO := Lib.hid (ho.mono hb1.size)
    clear ho
    go_wp2_with fail
    go_ret2
    exact ⟨_, vs, rfl, by simp only [binsR, HB.out, if_true, Int.toNat_natCast]; exact HO.out, (by repeat (first | exact Below.refl _ _ | assumption | refine ext_alloc ?_ _ | refine Below.drew ?_ | refine below_drewN' ?_ _ | refine ext_set ?_ (by first | (simp; done) | (simp; omega) | omega) _ | refine ext_trans ?_ (by assumption)))⟩

/-- Letters that lie somewhere are appended to a slice of the call's own. -/
theorem own_apps {W wr : World} {v : Value} {M xs : List Ltr} {A : Option Addr} {m cap : Nat} (hbel : Below W.heap.size W wr) (ho : Own wr W.heap.size v M) (hs : LS wr A m cap xs) (hnil : A = none → cap = 0) (hlen : M.length + m ≤ 4194304) (ty : TypeId) :
    ∃ v' w', (Builtin.append_ #[23, 23] ty #[v, .slice A m cap]).run Try.prog wr = .ok v' w' ∧ Own w' W.heap.size v' (M ++ xs) ∧ Below W.heap.size W w' ∧ wr.grownBy w' v.ownBlock ∧ (v'.ownBlock = v.ownBlock ∨ v'.ownBlock = some wr.heap.size) := by
  obtain ⟨v', w', h1, h2, h3, h4⟩ := run_apps ho hs hnil hbel.size hlen ty
  refine ⟨v', w', h1, ⟨by rw [cellsL_append, List.length_append]; exact h2, fun l hm => ?_⟩, below_app hbel ho hbel.size h3, h3, h4⟩
  rcases List.mem_append.1 hm with h | h
  · exact ho.2 l h
  · exact hs.2.2.2.1 l h
theorem slice_at (w : World) (x : Value) (t : TypeId) (g : Nat) (hg : g = w.heap.size) : ∀ j u, ([x] : List Value)[j]? = some u → (w.alloc (.cells #[x] t)).cell? ((⟨g, 0, none⟩ : Addr).add j) = some u := by
  intro j u hj
  subst hg
  have hr := Row.made w t #[x]
  rw [add_lit', hr.cell]
  simpa using hj
theorem slice_one (A : Option Addr) (n cap : Nat) : ∀ u ∈ ([.slice A n cap] : List Value), u.oneCell' = true := by
  intro u hu; simp at hu; subst hu; rfl
theorem out_ne {w : World} {B : Nat} {v u : Value} {vs : List Value} {bss : List (List Ltr)} (h : OwnSS w B v vs bss) (hn : ∀ g, u.ownBlock = some g → w.heap.size ≤ g) :
    (∀ (i : Nat) (x : Value), vs[i]? = some x → ∀ g, x.ownBlock = some g → u.ownBlock ≠ some g) ∧ (∀ g, v.ownBlock = some g → u.ownBlock ≠ some g) :=
  ⟨fun i x hx g hg he => by have := (h.rng.2 i x hx g hg).2; have := hn g he; omega, fun g hg he => by have := (h.rng.1 g hg).2; have := hn g he; omega⟩

set_option maxRecDepth 100000 in
set_option maxHeartbeats 4000000 in
theorem l9Own_any (A : Option Addr) (n cap : Nat) (bss : List (List Ltr)) (w : World) (h : LSS w A n cap bss) (hn : n ≤ 60) (hb : ∀ b ∈ bss, b.length ≤ 60) :
    Calls Try.prog 62 #[.slice A n cap] w (MakesSS bss w) := by
  have HL := Lib.hid h
  have HLEN := Lib.hid h.1
  have HBL := Lib.hid hb
  clear h hb
  obtain ⟨i0, hi, hz0, hz1, hz2⟩ := info_parts info_letters
  have HO0 := Lib.hid (ownSS_made (Nat.le_refl w.heap.size))
  go_enter Try.func62, Try.ntmps62
  go_wp2_with fail
  go_loopw [3, 9] (fun v iv wr => ∃ (k : Nat) (vs : List Value), k ≤ n ∧ iv = .int .i64 k ∧ OwnSS wr w.heap.size v vs (bss.take k) ∧ Below w.heap.size w wr) (fun _ iv _ => n - (intOf iv).toNat)
  case atStart => exact ⟨0, _, by omega, rfl, HO0.out, (by repeat (first | exact Below.refl _ _ | assumption | refine ext_alloc ?_ _ | refine Below.drew ?_ | refine below_drewN' ?_ _ | refine ext_set ?_ (by first | (simp; done) | (simp; omega) | omega) _ | refine ext_trans ?_ (by assumption)))⟩
  case round =>
    obtain ⟨k, vs, hk, rfl, hown, hbel⟩ := hrel
    have HO := Lib.hid hown
    clear hown HO0
    by_cases hkn : k < n
    · obtain ⟨g, off, b, A', n', c', rfl, hbk, c0, hls, hnil⟩ := (HL.out.ext hbel).at_ k hkn
      have hbl := HBL.out b (List.mem_of_getElem? hbk)
      have HT := Lib.hid (take_snoc' bss k b hbk)
      obtain rfl : n' = b.length := hls.1.symm
      have HTL := Lib.hid (show (bss.take k).length = k from by rw [List.length_take, HLEN.out]; omega)
      obtain ⟨v2, w2, hr2, ho2, hb2, hg2, hl2⟩ := own_apps (W := wr) (below_box wr (.cells #[] 31)) (own_made (Nat.le_refl _)) (hls.ext (below_box _ _)) hnil (by simp; omega) 23
      rw [List.nil_append] at ho2
      have HR2 := Lib.hid hr2
      have HO2 := Lib.hid ho2
      have HOW := Lib.hid (HO.out.ext hb2)
      have hbw2 := ext_trans hbel hb2
      have hs2 := hbw2.size
      have hblk : ∀ g, v2.ownBlock = some g → wr.heap.size ≤ g := fun g hg => (ho2.1.lt g hg).1
      have hnn := out_ne HO.out hblk
      have HNN := Lib.hid hnn
      obtain ⟨Ad, cd, rfl, _⟩ := ho2.read
      clear hls hbk hr2 ho2 hg2 hl2 hblk hnn
      go_wp2_with (first | (at_builtin; refine wpList_append_run rfl (.tmp 14) (.tmp 15) 23 rfl _ _ (.slice Ad b.length cd) w2 rfl rfl (by exact HR2.out) ?_) | (at_builtin; refine wpList_append_own_at _ rfl (.tmp 13) (.tmp 17) 26 rfl w.heap.size 23 i0 _ 1 24 Try.underlying26 hi hz0 hz1 hz2 rfl (by decide) _ _ _ rfl (by exact (HOW.out.row.alloc _)) ⟨w2.heap.size, 0, none⟩ 1 1 [.slice Ad b.length cd] rfl rfl (slice_at _ _ _ _ (by simp)) (slice_one _ _ _) (by rw [HTL.out]; unfold maxLen; omega) (by rw [HTL.out]; omega) (by simp; omega) ?_; intro v' w4 hown' hgrow _ hloc))
      have HA := Lib.hid (OwnSS.app (HOW.out.ext (below_box _ _)) ((HO2.out.mono (hbel.size)).ext (below_box _ _)) HNN.out.1 HNN.out.2 hown' hgrow hloc)
      have hb4 := (ext_alloc hbw2 _).grown hgrow (by simp; omega) (fun k hk => (HOW.out.row.lt k hk).1)
      rw [← HT.out] at HA
      clear hown' hgrow hloc
      go_wp2_with fail
      go_roundw
      case rel => exact ⟨k + 1, _, by omega, by go_num, HA.out, hb4⟩
      case measure => simp [intOf]; omega
    · have HK := Lib.hid (show bss.take k = bss from List.take_of_length_le (by rw [HLEN.out]; omega))
      have HF := Lib.hid (show OwnSS wr w.heap.size _ vs bss from by have hh := HO.out; rwa [HK.out] at hh)
      have hkd : decide ((k : Int) < (n : Int)) = false := by simp; omega
      go_wp2_with fail
      go_ret
      exact ⟨_, vs, rfl, HF.out, hbel⟩

theorem binsR_small (ls : List Ltr) (di : Int) : (binsR ls di).length ≤ 10 ∧ ∀ b ∈ binsR ls di, b.length ≤ 60 := by
  unfold binsR
  split
  · rename_i h
    simp only [binOk, Bool.and_eq_true] at h
    refine ⟨by rw [binsL_len]; omega, fun b hb => ?_⟩
    simp only [binsL, List.mem_map] at hb
    obtain ⟨k, _, rfl⟩ := hb
    exact Nat.le_trans (binL_le _ _ _) (batch_len h.1)
  · exact ⟨by simp, fun b hb => by cases hb⟩

set_option maxHeartbeats 1000000 in
theorem spec_BinPass (A : Option Addr) (n cap : Nat) (ls : List Ltr) (di : Int) (w : World) (h : LS w A n cap ls) :
    Calls Try.prog 17 #[.slice A n cap, .int .i64 di] w (GivesSS (binsR ls di) (binOk ls di) w) := by
  have HL := Lib.hid h
  clear h
  have hsm := binsR_small ls di
  have HSM := Lib.hid hsm.2
  have hlen := hsm.1
  clear hsm
  go_enter Try.func17, Try.ntmps17
  go_wp2_with fail
  refine (l2RawBinPass_any _ _ _ _ _ _ HL.out).mono ?_
  rintro e w1 ⟨v, vs, rfl, ho, hb1⟩
  obtain ⟨A1, c1, rfl, hls, _⟩ := ho.read
  have HLS := Lib.hid hls
  clear hls ho
  go_wp2_with fail
  refine (l9Own_any _ _ _ _ _ HLS.out (by omega) HSM.out).mono ?_
  rintro e w2 ⟨v2, vs2, rfl, ho2, hb2⟩
  have HO := Lib.hid (ho2.mono hb1.size)
  clear ho2
  go_wp2_with fail
  go_ret2
  exact ⟨_, vs2, rfl, HO.out, (by repeat (first | exact Below.refl _ _ | assumption | refine ext_alloc ?_ _ | refine Below.drew ?_ | refine below_drewN' ?_ _ | refine ext_set ?_ (by first | (simp; done) | (simp; omega) | omega) _ | refine ext_trans ?_ (by assumption)))⟩

end Go.Proofs.Ytafngfmloiikoaa
