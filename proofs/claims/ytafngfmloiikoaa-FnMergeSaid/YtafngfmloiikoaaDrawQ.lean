/-
  WALKS: the Draw function of two batches. By an AI agent.
-/
import Derived.Test.YtafngfmloiikoaaDrawN
namespace Go.Proofs.Ytafngfmloiikoaa
open Go.RowKit

/-- What a Draw function of two batches answers. -/
def DrawnTwo (w : World) (e : Ending) (w' : World) : Prop :=
  ∃ v1 l1 v2 l2, e = .returned (.tuple #[v1, v2]) ∧ Own w' w.heap.size v1 l1 ∧ Own w' w.heap.size v2 l2 ∧ l1.length ≤ 61 ∧ l2.length ≤ 61 ∧ Below w.heap.size w w'
theorem Own.gr2 {x y : World} {B r : Nat} {o : Option Nat} {v : Value} {ls : List Ltr} (h : Own x B v ls) (hg : Gr2 x y r o) (hr : r < B) (hno : ∀ g, v.ownBlock = some g → o ≠ some g) : Own y B v ls := by
  obtain ⟨⟨h1, h2⟩, h3⟩ := h
  refine ⟨⟨h1, ?_⟩, h3⟩
  rcases h2 with h2 | ⟨g, cap, cur, hv, hb, hgx, r'⟩
  · exact .inl h2
  · have hlt : g < x.heap.size := by
      by_cases hh : g < x.heap.size
      · exact hh
      · rw [Array.getElem?_eq_none (by omega)] at hgx; cases hgx
    exact .inr ⟨g, cap, cur, hv, hb, by rw [hg.block g hlt (by omega) (fun e => hno g (by rw [hv]; rfl) e.symm)]; exact hgx, r'⟩
theorem Src.gr2 {w x y : World} {r P P' : Nat} {o : Option Nat} (h : Src w x r P) (hr : Rd y r P') (hg : Gr2 x y r o) (ho : ∀ g, o = some g → w.heap.size ≤ g) : Src w y r P' :=
  ⟨hr, h.2.1, ⟨hg.os.trans h.2.2.os, hg.tape.trans h.2.2.tape, hg.output.trans h.2.2.output, Nat.le_trans h.2.2.size hg.size, fun k hk => (hg.block k (Nat.lt_of_lt_of_le hk h.2.2.size) (by have := h.2.1; omega) (fun e => by have := ho k e.symm; omega)).trans (h.2.2.block k hk)⟩⟩
theorem batch_small {ls : List Ltr} (h : batchB ls = true) : ∀ l ∈ ls, l.2.size ≤ 100 := fun l hl => by have := batch_sz h l hl; omega
/-- Two slices of the call's own that share no memory: the first one is handed to l2Bad. -/
theorem apart_new {x : World} {B : Nat} {va va' vb : Value} {lb : List Ltr} (hb : Own x B vb lb) (hd : ∀ g, va.ownBlock = some g → vb.ownBlock ≠ some g) (hv : ∀ k, va'.ownBlock = some k → va.ownBlock = some k ∨ x.heap.size ≤ k) :
    ∀ g, va'.ownBlock = some g → vb.ownBlock ≠ some g := fun g hg he => by
  rcases hv g hg with h | h
  · exact hd g h he
  · have := (hb.1.lt g he).2; omega

set_option maxRecDepth 100000 in
set_option maxHeartbeats 8000000 in
theorem DrawMergeBatches_any (a : Option Addr) (len cap : Nat) (w : World) (h : BytesIn w a len cap) :
    Calls Try.prog 46 #[.slice a len cap] w (DrawnTwo w) := by
  have HC := Lib.hid h
  clear h
  go_enter Try.func46, Try.ntmps46
  go_wp2_with fail; refine (l9Open_any _ _ _ _ HC.out).mono ?_; rintro e w1 ⟨r, rfl, hr, hle, hb⟩; have HS := Lib.hid (Src.mk1 hr hle hb); clear hr hb
  go_wp2_with fail
  refine (l2Some_any r _ _ _ HS.out.1 (by omega) (by omega) (by omega)).mono ?_
  rintro e w2 ⟨v1, l1, rfl, ho1, ⟨hb1, hl1⟩, hr, hg⟩
  have hs1 := HS.out.2.1
  replace HS := Lib.hid (HS.out.got hr hg)
  have hr2 := HS.out.1.lt
  obtain ⟨A1, c1, rfl, hls1⟩ := ho1.read
  have HL1 := Lib.hid hls1
  have HN1 := Lib.hid ho1.nilcap
  have HB1 := Lib.hid hb1
  have HST1 := Lib.hid (sortL_stab hb1)
  clear ho1 hls1 hr hg hb1
  go_wp2_with fail
  have HI := Lib.hid (ownI_lit w2 w2.heap.size [0, 1, 2, 3, 4, 5, 6] (Nat.le_refl _) (by decide))
  refine (l2Sort_any _ _ _ _ _ _ _ _ _ _ (HL1.out.ext (below_box _ _)) HN1.out HI.out HB1.out (by decide) (by decide)).mono ?_
  rintro e w3 ⟨va, rfl, hoa, hb3⟩
  rw [HST1.out] at hoa
  replace HS := Lib.hid ((HS.out.alloc _).ext hb3)
  have HA := Lib.hid (show Own w3 (r + 1) va (stabL l1) from hoa.mono (by have := (below_box w2 (.cells (cellsI [0, 1, 2, 3, 4, 5, 6]).toArray 3)).size; omega))
  have hr3 := HS.out.1.lt
  have HAB := Lib.hid (stabL_batch HB1.out)
  have hal : (stabL l1).length ≤ 14 := by rw [(stabL_perm l1).length_eq]; exact hl1
  clear hoa hb3 HI HL1 HN1 HST1 HB1
  obtain ⟨la, hla⟩ : ∃ la, stabL l1 = la := ⟨_, rfl⟩
  rw [hla] at HA HAB hal
  clear hla
  go_wp2_with fail
  refine (l2Some_any r _ _ _ HS.out.1 (by omega) (by omega) (by omega)).mono ?_
  rintro e w4 ⟨v2, l2, rfl, ho2, ⟨hb2, hl2⟩, hr, hg⟩
  replace HA := Lib.hid (HA.out.got hg (by omega))
  replace HS := Lib.hid (HS.out.got hr hg)
  obtain ⟨A2, c2, rfl, hls2⟩ := ho2.read
  have HL2 := Lib.hid hls2
  have HN2 := Lib.hid ho2.nilcap
  have HB2 := Lib.hid hb2
  have HST2 := Lib.hid (sortL_stab hb2)
  clear ho2 hls2 hr hg hb2
  go_wp2_with fail
  have HI := Lib.hid (ownI_lit w4 w4.heap.size [0, 1, 2, 3, 4, 5, 6] (Nat.le_refl _) (by decide))
  refine (l2Sort_any _ _ _ _ _ _ _ _ _ _ (HL2.out.ext (below_box _ _)) HN2.out HI.out HB2.out (by decide) (by decide)).mono ?_
  rintro e w5 ⟨vb, rfl, hob, hb5⟩
  rw [HST2.out] at hob
  have hr4 := HS.out.1.lt
  have hszb := (below_box w4 (.cells (cellsI [0, 1, 2, 3, 4, 5, 6]).toArray 3)).size
  have HDJ := Lib.hid (show ∀ g, va.ownBlock = some g → vb.ownBlock ≠ some g from fun g hg he => by
    have h1 := (HA.out.1.lt g hg).2
    have h2 := (hob.1.lt g he).1
    omega)
  replace HA := Lib.hid ((HA.out.ext (below_box _ _)).ext hb5)
  replace HS := Lib.hid ((HS.out.alloc _).ext hb5)
  have HBW := Lib.hid (show Own w5 (r + 1) vb (stabL l2) from hob.mono (by omega))
  have HBB := Lib.hid (stabL_batch HB2.out)
  have hbl : (stabL l2).length ≤ 14 := by rw [(stabL_perm l2).length_eq]; exact hl2
  clear hob hb5 HI HL2 HN2 HST2 HB2 hszb
  obtain ⟨lb, hlb⟩ : ∃ lb, stabL l2 = lb := ⟨_, rfl⟩
  rw [hlb] at HBW HBB hbl
  clear hlb
  go_wp2_with fail
  refine (pick_lit r _ _ _ HS.out.1 (by omega) (by omega)).mono ?_
  rintro e w6 ⟨_, rfl, ⟨q, rfl, hq⟩, hr, hg⟩
  replace HA := Lib.hid (HA.out.got hg (by omega))
  replace HBW := Lib.hid (HBW.out.got hg (by omega))
  replace HS := Lib.hid (HS.out.got hr hg)
  have HAS := Lib.hid (batch_small HAB.out)
  have HBS := Lib.hid (batch_small HBB.out)
  have HT := Lib.hid (show Two w6 (r + 1) va la vb lb from ⟨HA.out, HBW.out, HDJ.out⟩)
  have hrw : r < w6.heap.size := HS.out.1.lt
  clear hr hg HA HBW HDJ HAB HBB
  by_cases h0 : q = 0
  · subst h0
    obtain ⟨Aa, ca, rfl, hlsa⟩ := HT.out.1.read
    obtain ⟨w7, vb7, hrun, hown, hgr, hloc⟩ : ∃ (w7 : World) (vb7 : Value), (Builtin.append_ #[23, 23] 23 #[vb, .slice Aa la.length ca]).run Try.prog w6 = .ok vb7 w7 ∧ w7.ownsRow (r + 1) 31 2 vb7 (lb.length + la.length) (cellsL lb ++ cellsL la) ∧ w6.grownBy w7 vb.ownBlock ∧ (vb7.ownBlock = vb.ownBlock ∨ vb7.ownBlock = some w6.heap.size) := by
      obtain ⟨v', w', h1, h2, h3, h4⟩ := run_apps HT.out.2.1 hlsa HT.out.1.nilcap (by omega) (by omega) 23
      exact ⟨w', v', h1, h2, h3, h4⟩
    have HT7 := Lib.hid ((Two.apps HT.out.symm HT.out.1.2 hown hgr hloc).symm)
    replace HS := Lib.hid (HS.out.gr2 (r := r) (rd_app HS.out.1 hgr HT.out.2.1 (by omega)) (Gr2.app (Gr2.refl w6 r vb.ownBlock) hgr (fun k hk => .inl hk)) (fun g hg => by have := (HT.out.2.1.1.lt g hg).1; have := HS.out.2.1; omega))
    have hlen : (lb ++ la).length ≤ 28 := by simp; omega
    replace HBS := Lib.hid (show ∀ l ∈ lb ++ la, l.2.size ≤ 100 from fun l hl => by
      rcases List.mem_append.1 hl with h | h
      · exact HBS.out l h
      · exact HAS.out l h)
    have HRUN := Lib.hid hrun
    clear hrun hown hgr hloc hlsa HT
    have HT := HT7
    clear HT7
    go_wp2_with (at_builtin; refine wpList_append_run rfl (.tmp 21) (.tmp 22) 23 rfl _ _ vb7 w7 rfl rfl (by exact HRUN.out) ?_)
    refine (l2Bad_any r _ (r + 1) _ _ _ HS.out.1 (by omega) HT.out.1 (by omega) (by have := HS.out.1.lt; omega) (by omega) HAS.out).mono ?_
    rintro e wa ⟨va', la', rfl, hoa, hla', hra, hga, hva⟩
    have HBb := Lib.hid (HT.out.2.1.gr2 hga (by omega) (fun g hg he => HT.out.2.2 g he hg))
    have HDJ := Lib.hid (apart_new HT.out.2.1 HT.out.2.2 hva)
    replace HS := Lib.hid (HS.out.gr2 hra hga (fun g hg => by have := (HT.out.1.1.lt g hg).1; have := HS.out.2.1; omega))
    have HAa := Lib.hid hoa
    clear hoa hra hga hva HT
    go_wp2_with fail
    refine (l2Bad_any r _ (r + 1) _ _ _ HS.out.1 (by omega) HBb.out (by omega) (by have := HS.out.1.lt; omega) (by omega) HBS.out).mono ?_
    rintro e wb ⟨vb', lb', rfl, hob, hlb', hrb, hgb, hvb⟩
    replace HAa := Lib.hid (HAa.out.gr2 hgb (by omega) (fun g hg he => HDJ.out g hg he))
    replace HS := Lib.hid (HS.out.gr2 hrb hgb (fun g hg => by have := (HBb.out.1.lt g hg).1; have := HS.out.2.1; omega))
    have HBf := Lib.hid hob
    clear hob hrb hgb hvb HBb HDJ
    go_wp2_with fail
    go_ret2
    exact ⟨va', la', vb', lb', rfl, HAa.out.mono (by omega), HBf.out.mono (by omega), hla', hlb', HS.out.2.2⟩
  · have hq0 : ((q : Int) == 0) = false := by simp; omega
    by_cases h1 : q = 1
    · subst h1
      go_wp2_with fail
      refine (l2Some_any r _ _ _ HS.out.1 (by omega) (by omega) (by omega)).mono ?_
      rintro e w7 ⟨vb7, lb7, rfl, ho7, ⟨hb7, hl7⟩, hr, hg⟩
      have HT7 := Lib.hid (show Two w7 (r + 1) va la vb7 lb7 from ⟨HT.out.1.got hg (by omega), ho7.mono (by omega), fun g hg he => by
        have h1 := (HT.out.1.1.lt g hg).2
        have h2 := (ho7.1.lt g he).1
        omega⟩)
      replace HS := Lib.hid (HS.out.got hr hg)
      replace HBS := Lib.hid (batch_small hb7)
      clear ho7 hr hg hb7 HT
      have HT := HT7
      clear HT7
      go_wp2_with fail
      refine (l2Bad_any r _ (r + 1) _ _ _ HS.out.1 (by omega) HT.out.1 (by omega) (by have := HS.out.1.lt; omega) (by omega) HAS.out).mono ?_
      rintro e wa ⟨va', la', rfl, hoa, hla', hra, hga, hva⟩
      have HBb := Lib.hid (HT.out.2.1.gr2 hga (by omega) (fun g hg he => HT.out.2.2 g he hg))
      have HDJ := Lib.hid (apart_new HT.out.2.1 HT.out.2.2 hva)
      replace HS := Lib.hid (HS.out.gr2 hra hga (fun g hg => by have := (HT.out.1.1.lt g hg).1; have := HS.out.2.1; omega))
      have HAa := Lib.hid hoa
      clear hoa hra hga hva HT
      go_wp2_with fail
      refine (l2Bad_any r _ (r + 1) _ _ _ HS.out.1 (by omega) HBb.out (by omega) (by have := HS.out.1.lt; omega) (by omega) HBS.out).mono ?_
      rintro e wb ⟨vb', lb', rfl, hob, hlb', hrb, hgb, hvb⟩
      replace HAa := Lib.hid (HAa.out.gr2 hgb (by omega) (fun g hg he => HDJ.out g hg he))
      replace HS := Lib.hid (HS.out.gr2 hrb hgb (fun g hg => by have := (HBb.out.1.lt g hg).1; have := HS.out.2.1; omega))
      have HBf := Lib.hid hob
      clear hob hrb hgb hvb HBb HDJ
      go_wp2_with fail
      go_ret2
      exact ⟨va', la', vb', lb', rfl, HAa.out.mono (by omega), HBf.out.mono (by omega), hla', hlb', HS.out.2.2⟩
    · have hq1 : ((q : Int) == 1) = false := by simp; omega
      go_wp2_with fail
      refine (l2Bad_any r _ (r + 1) _ _ _ HS.out.1 (by omega) HT.out.1 (by omega) (by have := HS.out.1.lt; omega) (by omega) HAS.out).mono ?_
      rintro e wa ⟨va', la', rfl, hoa, hla', hra, hga, hva⟩
      have HBb := Lib.hid (HT.out.2.1.gr2 hga (by omega) (fun g hg he => HT.out.2.2 g he hg))
      have HDJ := Lib.hid (apart_new HT.out.2.1 HT.out.2.2 hva)
      replace HS := Lib.hid (HS.out.gr2 hra hga (fun g hg => by have := (HT.out.1.1.lt g hg).1; have := HS.out.2.1; omega))
      have HAa := Lib.hid hoa
      clear hoa hra hga hva HT
      go_wp2_with fail
      refine (l2Bad_any r _ (r + 1) _ _ _ HS.out.1 (by omega) HBb.out (by omega) (by have := HS.out.1.lt; omega) (by omega) HBS.out).mono ?_
      rintro e wb ⟨vb', lb', rfl, hob, hlb', hrb, hgb, hvb⟩
      replace HAa := Lib.hid (HAa.out.gr2 hgb (by omega) (fun g hg he => HDJ.out g hg he))
      replace HS := Lib.hid (HS.out.gr2 hrb hgb (fun g hg => by have := (HBb.out.1.lt g hg).1; have := HS.out.2.1; omega))
      have HBf := Lib.hid hob
      clear hob hrb hgb hvb HBb HDJ
      go_wp2_with fail
      go_ret2
      exact ⟨va', la', vb', lb', rfl, HAa.out.mono (by omega), HBf.out.mono (by omega), hla', hlb', HS.out.2.2⟩

end Go.Proofs.Ytafngfmloiikoaa
