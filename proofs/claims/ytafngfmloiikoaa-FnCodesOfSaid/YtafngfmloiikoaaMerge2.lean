/-
  MergeBatches of the reference. By an AI agent.
-/
import Derived.Test.YtafngfmloiikoaaMerge
import Derived.Laws.AppendOwnNone
namespace Go.Proofs.Ytafngfmloiikoaa
open Go.RowKit

theorem LS.news {w : World} {ad : Addr} {n cap : Nat} {ls : List Ltr} (h : LS w (some ad) n cap ls) : ∀ j u, (cellsL ls)[j]? = some u → w.cell? (ad.add j) = some u := by
  intro j u hu
  have hj : j < ls.length * 2 := by have := (List.getElem?_eq_some_iff.1 hu).1; rwa [cellsL_length] at this
  obtain ⟨h1, h2, h3, h4, h5⟩ := h
  obtain ⟨g, off, ha, hc⟩ := h5 (by omega)
  injection ha with ha
  subst ha
  rw [show (Addr.add ⟨g, off, none⟩ j : Addr) = ⟨g, off + j, none⟩ by unfold Addr.add; split <;> simp_all]
  have hi : j / 2 < ls.length := by omega
  have hat := cellsL_at ls (j / 2) hi
  by_cases e : j % 2 = 0
  · have hj2 : j = j / 2 * 2 := by omega
    rw [hj2] at hu ⊢
    rw [hat.1] at hu
    rw [(hc (j / 2) hi).1, ← hu]
  · have hj2 : j = j / 2 * 2 + 1 := by omega
    rw [hj2] at hu ⊢
    rw [hat.2] at hu
    rw [← Nat.add_assoc, (hc (j / 2) hi).2, ← hu]
/-- What an append of letters to the first of two slices leaves. -/
theorem Two.apps {w w' : World} {B : Nat} {v1 v2 v' : Value} {l1 l2 xs : List Ltr} (h : Two w B v1 l1 v2 l2) (hx : ∀ l ∈ xs, l.2.size ≤ maxLen)
    (ho : w'.ownsRow B 31 2 v' (l1.length + xs.length) (cellsL l1 ++ cellsL xs)) (hg : w.grownBy w' v1.ownBlock) (hl : v'.ownBlock = v1.ownBlock ∨ v'.ownBlock = some w.heap.size) :
    Two w' B v' (l1 ++ xs) v2 l2 := by
  refine ⟨⟨?_, fun l hm => ?_⟩, h.2.1.kept hg (fun g hv he => h.2.2 g he hv), fun g hv he => ?_⟩
  · rw [cellsL_append, List.length_append]; exact ho
  · rcases List.mem_append.1 hm with h1 | h1
    · exact h.1.2 l h1
    · exact hx l h1
  · rcases hl with hl | hl
    · rw [hl] at hv; exact h.2.2 g hv he
    · rw [hl] at hv
      injection hv with hv
      have := (h.2.1.1.lt g he).2
      omega
/-- An append whose run is known. -/
theorem wpList_append_run {P : Program} {w : World} {ops : Array Oper} {rest : List Oper} {o : Oper} {a : Act} {Q : Exit → Act → World → Prop} (hgd : o.guard = none) (s x : Operand) (t : TypeId)
    (ho : o.op = .call { callee := .builtin .append, args := #[s, x], argTypes := #[t, t] }) (v1 v2 v' : Value) (w' : World) (h1 : a.eval s = v1) (h2 : a.eval x = v2)
    (hrun : (Builtin.append_ #[t, t] o.type #[v1, v2]).run P w = .ok v' w') (h : wpList P ops Q rest (a.put o.dst v') w') : wpList P ops Q (o :: rest) a w := by
  refine wpList_plain hgd fun K hK => ?_
  unfold Oper.wp execOp
  simp only [ho, resolve, invoke, builtin, Sem.run_bind, Sem.run_pure, Result.andThen_ok, List.map_toArray, List.map_cons, List.map_nil, h1, h2, hrun]
  exact hK _ _ h
/-- An append of letters that lie somewhere to a slice of the call's own. -/
theorem run_apps {w : World} {B : Nat} {v : Value} {ls xs : List Ltr} {A : Option Addr} {m cap : Nat} (ho : Own w B v ls) (hs : LS w A m cap xs) (hnil : A = none → cap = 0) (hB : B ≤ w.heap.size) (hlen : ls.length + m ≤ 4194304) (ty : TypeId) :
    ∃ v' w', (Builtin.append_ #[23, 23] ty #[v, .slice A m cap]).run Try.prog w = .ok v' w' ∧ w'.ownsRow B 31 2 v' (ls.length + xs.length) (cellsL ls ++ cellsL xs) ∧ w.grownBy w' v.ownBlock ∧ (v'.ownBlock = v.ownBlock ∨ v'.ownBlock = some w.heap.size) := by
  obtain ⟨i0, hi, hz0, hz1, hz2⟩ := info_parts info_letter
  have hm := hs.1
  cases A with
  | none =>
    have hm0 : m = 0 := by
      cases m with
      | zero => rfl
      | succ k => obtain ⟨g, off, h, _⟩ := hs.2.2.2.2 (by omega); cases h
    obtain rfl := hnil rfl
    subst hm0
    obtain rfl : xs = [] := List.eq_nil_of_length_eq_zero hm
    refine ⟨v, w, run_append_owned_none (P := Try.prog) (w := w) B 23 ty 31 i0 2 Try.underlying23 hi v _ _ ho.1, by simpa [cellsL] using ho.1, World.grownBy.refl _ _, .inl rfl⟩
  | some ad =>
    obtain ⟨v', w', h1, h2, h3, _, h5⟩ := run_append_own_at (P := Try.prog) w B 23 ty 31 i0 _ 2 24 Try.underlying23 hi hz0 hz1 hz2 rfl (by decide) v _ _ ho.1 ad m cap (cellsL xs) (by rw [cellsL_length, hm]) hs.news (cellsL_oneCell xs) (by unfold maxLen; omega) (by omega) hB
    exact ⟨v', w', h1, by rw [hm]; exact h2, h3, h5⟩
theorem LS.tail {w : World} {g off n cap : Nat} {x : Ltr} {ls : List Ltr} (h : LS w (some ⟨g, off, none⟩) (n + 1) cap (x :: ls)) : LS w (some ⟨g, off + 2, none⟩) n (cap - 1) ls := by
  obtain ⟨h1, h2, h3, h4, h5⟩ := h
  refine ⟨by simpa using h1, by omega, by omega, fun l hl => h4 l (List.mem_cons_of_mem _ hl), fun h0 => ⟨g, off + 2, rfl, fun i hi => ?_⟩⟩
  obtain ⟨g', off', ha, hc⟩ := h5 (by omega)
  simp at ha
  obtain ⟨rfl, rfl⟩ := ha
  have hh := hc (i + 1) (by simpa using hi)
  rw [show off + 2 + i * 2 = off + (i + 1) * 2 by omega]
  simpa using hh
theorem LS.empty (w : World) (A : Option Addr) (cap : Nat) (h : cap ≤ maxLen) : LS w A 0 cap [] := ⟨rfl, Nat.zero_le _, h, fun l hl => (by cases hl), fun h => by omega⟩
theorem Own.nilcap {w : World} {B : Nat} {A : Option Addr} {n cap : Nat} {ls : List Ltr} (h : Own w B (.slice A n cap) ls) : A = none → cap = 0 := by
  intro hA
  rcases h.1.2 with ⟨hv, _⟩ | ⟨g, cap', cur, hv, _⟩
  · simp at hv; exact hv.2.2
  · simp at hv; rw [hA] at hv; cases hv.1

def lenOf : Value → Nat | .slice _ n _ => n | _ => 0
theorem LS.first {w : World} {A : Option Addr} {n cap : Nat} {ls : List Ltr} (h : LS w A n cap ls) (h0 : 0 < n) :
    ∃ (g off : Nat) (x : Ltr) (ls' : List Ltr) (n' : Nat), A = some ⟨g, off, none⟩ ∧ n = n' + 1 ∧ ls = x :: ls' ∧ x.2.size ≤ maxLen ∧ w.cell? ⟨g, off, none⟩ = some (.int .i64 x.1) ∧ w.cell? ⟨g, off + 1, none⟩ = some (.string x.2) := by
  obtain ⟨g, off, l, hA, hl, hlm, c0, c1⟩ := h.at_ 0 h0
  match ls, hl with
  | x :: ls', hl =>
    simp at hl
    subst hl
    exact ⟨g, off, x, ls', n - 1, hA, by omega, rfl, hlm, by simpa using c0, by simpa using c1⟩

set_option maxHeartbeats 8000000 in
theorem spec_MergeBatches (A : Option Addr) (n cap : Nat) (xs : List Ltr) (A2 : Option Addr) (m cap2 : Nat) (ys : List Ltr) (w : World) (h : LS w A n cap xs) (h2 : LS w A2 m cap2 ys)
    (hc1 : A = none → cap = 0) (hc2 : A2 = none → cap2 = 0) (hn : n ≤ 1048576) (hm : m ≤ 1048576) :
    Calls Try.prog 48 #[.slice A n cap, .slice A2 m cap2] w (Gives (mergeR xs ys) (mergeOk xs ys) w) := by
  have HN := Lib.hid h.1
  have HM := Lib.hid h2.1
  have htm := two_made w
  have hb0 : Below w.heap.size w ((w.alloc (.cells #[] 31)).alloc (.cells #[] 31)) := ext_alloc (below_box _ _) _
  obtain ⟨v3, w3, hr3, ho3, hg3, hl3⟩ := run_apps htm.symm.1 (h.ext hb0) hc1 (by simp; omega) (by simp; omega) 23
  have ht3 := htm.symm.apps h.2.2.2.1 ho3 hg3 hl3
  have hb3 := below_app hb0 htm.symm.1 hb0.size hg3
  obtain ⟨v4, w4, hr4, ho4, hg4, hl4⟩ := run_apps ht3.1 (h2.ext hb3) hc2 hb3.size (by simp; rw [h.1]; omega) 23
  have ht4 := ht3.apps h2.2.2.2.1 ho4 hg4 hl4
  have hb4 := below_app hb3 ht3.1 hb3.size hg4
  have HT := Lib.hid ht4
  have HL := Lib.hid h
  have HL2 := Lib.hid h2
  have HR3 := Lib.hid hr3
  have HR4 := Lib.hid hr4
  clear htm hb0 ho3 hg3 hl3 ht3 hb3 ho4 hg4 hl4 ht4 h h2 hc1 hc2 hr3 hr4
  go_enter Try.func48, Try.ntmps48
  go_wp2_with (first | (at_builtin; refine wpList_append_run rfl (.tmp 9) (.tmp 10) 23 rfl _ _ v3 w3 rfl rfl (by exact HR3.out) ?_) | (at_builtin; refine wpList_append_run rfl (.tmp 11) (.tmp 12) 23 rfl _ _ v4 w4 rfl rfl (by exact HR4.out) ?_))
  cases hsa : sortedB xs with
  | false =>
    have H := Lib.hid (show mergeOk xs ys = false from by simp [mergeOk, hsa])
    have HSA := Lib.hid hsa
    clear hsa
    refine (spec_SortedBatch _ _ _ _ _ (HL.out.ext hb4)).mono ?_
    rintro e w5 ⟨rfl, hb5⟩
    rw [HSA.out]
    go_wp2_with fail
    go_ret2
    exact ⟨_, ret_val (by rw [H.out]; rfl), by simp only [mergeR, H.out]; exact (HT.out.2.1.ext hb5), (by repeat (first | exact Below.refl _ _ | assumption | refine ext_alloc ?_ _ | refine Below.drew ?_ | refine below_drewN' ?_ _ | refine ext_set ?_ (by first | (simp; done) | (simp; omega) | omega) _ | refine ext_trans ?_ (by assumption)))⟩
  | true =>
    cases hsb : sortedB ys with
    | false =>
      have H := Lib.hid (show mergeOk xs ys = false from by simp [mergeOk, hsb])
      have HSA := Lib.hid hsa
      have HSB := Lib.hid hsb
      clear hsa hsb
      refine (spec_SortedBatch _ _ _ _ _ (HL.out.ext hb4)).mono ?_
      rintro e w5 ⟨rfl, hb5⟩
      rw [HSA.out]
      go_wp2_with fail
      refine (spec_SortedBatch _ _ _ _ _ ((HL2.out.ext hb4).ext hb5)).mono ?_
      rintro e w6 ⟨rfl, hb6⟩
      rw [HSB.out]
      go_wp2_with fail
      go_ret2
      exact ⟨_, ret_val (by rw [H.out]; rfl), by simp only [mergeR, H.out]; exact ((HT.out.2.1.ext hb5).ext hb6), (by repeat (first | exact Below.refl _ _ | assumption | refine ext_alloc ?_ _ | refine Below.drew ?_ | refine below_drewN' ?_ _ | refine ext_set ?_ (by first | (simp; done) | (simp; omega) | omega) _ | refine ext_trans ?_ (by assumption)))⟩
    | true =>
      have hn60 := batch_len (sorted_batch hsa)
      have hm60 := batch_len (sorted_batch hsb)
      rw [HN.out] at hn60
      rw [HM.out] at hm60
      have H := Lib.hid (show mergeOk xs ys = batchB (xs ++ ys) from by simp [mergeOk, hsa, hsb])
      have HSA := Lib.hid hsa
      have HSB := Lib.hid hsb
      clear hsa hsb
      obtain ⟨A4, c4, hv4, hl4⟩ := HT.out.1.read
      have hN : ([] ++ xs ++ ys).length = n + m := by simp [HN.out, HM.out]
      rw [hN] at hv4 hl4
      rw [List.nil_append] at hl4
      subst hv4
      clear hN
      have HL4 := Lib.hid hl4
      clear hl4
      refine (spec_SortedBatch _ _ _ _ _ (HL.out.ext hb4)).mono ?_
      rintro e w5 ⟨rfl, hb5⟩
      rw [HSA.out]
      go_wp2_with fail
      refine (spec_SortedBatch _ _ _ _ _ ((HL2.out.ext hb4).ext hb5)).mono ?_
      rintro e w6 ⟨rfl, hb6⟩
      rw [HSB.out]
      cases hb : batchB (xs ++ ys) with
      | false =>
        have HB := Lib.hid hb
        have HOK := Lib.hid (show mergeOk xs ys = false from by rw [H.out]; exact hb)
        clear hb
        go_wp2_with fail
        refine (spec_BatchValid _ _ _ _ _ ((HL4.out.ext hb5).ext hb6)).mono ?_
        rintro e w7 ⟨rfl, hb7⟩
        rw [HB.out]
        go_wp2_with fail
        go_ret2
        exact ⟨_, ret_val (by rw [HOK.out]; rfl), by simp only [mergeR, HOK.out]; exact (((HT.out.2.1.ext hb5).ext hb6).ext hb7), (by repeat (first | exact Below.refl _ _ | assumption | refine ext_alloc ?_ _ | refine Below.drew ?_ | refine below_drewN' ?_ _ | refine ext_set ?_ (by first | (simp; done) | (simp; omega) | omega) _ | refine ext_trans ?_ (by assumption)))⟩
      | true =>
        have HB := Lib.hid hb
        have HOK := Lib.hid (show mergeOk xs ys = true from by rw [H.out]; exact hb)
        have HR := Lib.hid (show mergeR xs ys = mergeL xs ys from by simp only [mergeR, H.out, hb, if_true])
        clear hb
        go_wp2_with fail
        refine (spec_BatchValid _ _ _ _ _ ((HL4.out.ext hb5).ext hb6)).mono ?_
        rintro e w7 ⟨rfl, hb7⟩
        rw [HB.out]
        have hbw : Below w.heap.size w w7 := (by repeat (first | exact Below.refl _ _ | assumption | refine ext_alloc ?_ _ | refine Below.drew ?_ | refine below_drewN' ?_ _ | refine ext_set ?_ (by first | (simp; done) | (simp; omega) | omega) _ | refine ext_trans ?_ (by assumption)))
        have HO0 := Lib.hid (((HT.out.2.1.ext hb5).ext hb6).ext hb7)
        clear hb4 hb5 hb6 hb7 HT HL4
        obtain ⟨i0, hi, hz0, hz1, hz2⟩ := info_parts info_letter
        go_wp2_with fail
        go_loopw [0, 1, 6] (fun s0 s1 v wr => ∃ (Aa : Option Addr) (na ca : Nat) (la : List Ltr) (Ab : Option Addr) (nb cb : Nat) (lb M : List Ltr), s0 = .slice Aa na ca ∧ s1 = .slice Ab nb cb ∧ LS w Aa na ca la ∧ LS w Ab nb cb lb ∧ M ++ mergeL la lb = mergeL xs ys ∧ M.length + na + nb = n + m ∧ Own wr w.heap.size v M ∧ Below w.heap.size w wr) (fun s0 s1 _ _ => lenOf s0 + lenOf s1)
        case atStart => exact ⟨A, n, cap, xs, A2, m, cap2, ys, [], rfl, rfl, HL.out, HL2.out, rfl, by simp, HO0.out, hbw⟩
        case round =>
          clear HO0 hbw HL HL2
          obtain ⟨Aa, na, ca, la, Ab, nb, cb, lb, M, rfl, rfl, hla, hlb, hM, hML, hown, hbel⟩ := hrel
          have hsize := hbel.size
          have hca := hla.2.1
          have hcb := hlb.2.1
          have hcam := hla.2.2.1
          have hcbm := hlb.2.2.1
          unfold maxLen at hcam hcbm
          have HMM := Lib.hid hM
          have HLN := Lib.hid hML
          have HO := Lib.hid hown
          have HLA := Lib.hid hla
          have HLB := Lib.hid hlb
          have hsm : na + nb ≤ 120 := by omega
          clear hM hML hown hla hlb
          by_cases hnb : 0 < nb
          · obtain ⟨g2, off2, y, lb', nb', hA2, hn2, hl2, hym, d0, d1⟩ := (HLB.out.ext hbel).first hnb
            subst hA2 hn2 hl2
            have hbd : (((nb' : Int) + 1) == 0) = false := by simp; omega
            have hbd2 : decide (0 < (nb' : Int) + 1) = true := decide_eq_true (by omega)
            have hbi : (0 : Int) < (nb' : Int) + 1 := by omega
            by_cases hna : 0 < na
            · obtain ⟨g, off, x, la', na', hA, hn', hl', hxm, c0, c1⟩ := (HLA.out.ext hbel).first hna
              subst hA hn' hl'
              have had2 : decide (0 < (na' : Int) + 1) = true := decide_eq_true (by omega)
              have hai : (0 : Int) < (na' : Int) + 1 := by omega
              cases hle : leB x.2 y.2 with
              | true =>
                have hle2 : (Op.bytesLess x.2.toList y.2.toList || x.2.toList == y.2.toList) = true := hle
                have HS := Lib.hid (show (M ++ [x]) ++ mergeL la' (y :: lb') = mergeL xs ys from by
                  rw [← HMM.out, mergeL_left _ _ _ _ hle]; simp)
                clear hle
                by_cases hc1 : ca = 1
                · obtain rfl : na' = 0 := by omega
                  obtain rfl : la' = [] := List.eq_nil_of_length_eq_zero (by have := HLA.out.1; simpa using this)
                  subst hc1
                  go_wp2_with fail
                  go_quiet (fail)
                  go_wp2_with (at_builtin; refine wpList_append_own_at _ rfl _ _ 23 rfl w.heap.size 31 i0 _ 2 24 Try.underlying23 hi hz0 hz1 hz2 rfl (by decide) _ _ _ rfl (by exact (HO.out.1.alloc _)) ⟨wr.heap.size, 0, none⟩ 1 1 [.int .i64 x.1, .string x.2] rfl rfl (by exact (letter_at _ x _ _ (by simp))) (letter_one x) (by have := HLN.out; unfold maxLen; omega) (by have := HLN.out; omega) (by simp; omega) ?_; intro v' w5 hown' hgrow _ hloc; clear hloc; have HST := Lib.hid (own_step hbel HO.out hxm hown' hgrow); clear hown' hgrow)
                  go_roundw
                  case rel => exact ⟨_, _, _, [], _, _, _, (y :: lb'), M ++ [x], rfl, rfl, LS.empty _ _ _ (by unfold maxLen; omega), HLB.out, HS.out, by have := HLN.out; simp; omega, HST.out.1, HST.out.2⟩
                  case measure => simp [lenOf]
                · have hc2 : 1 < ca := by omega
                  go_wp2_with fail
                  go_quiet (fail)
                  go_wp2_with (at_builtin; refine wpList_append_own_at _ rfl _ _ 23 rfl w.heap.size 31 i0 _ 2 24 Try.underlying23 hi hz0 hz1 hz2 rfl (by decide) _ _ _ rfl (by exact (HO.out.1.alloc _)) ⟨wr.heap.size, 0, none⟩ 1 1 [.int .i64 x.1, .string x.2] rfl rfl (by exact (letter_at _ x _ _ (by simp))) (letter_one x) (by have := HLN.out; unfold maxLen; omega) (by have := HLN.out; omega) (by simp; omega) ?_; intro v' w5 hown' hgrow _ hloc; clear hloc; have HST := Lib.hid (own_step hbel HO.out hxm hown' hgrow); clear hown' hgrow)
                  go_roundw
                  case rel => exact ⟨_, _, _, la', _, _, _, (y :: lb'), M ++ [x], rfl, rfl, HLA.out.tail, HLB.out, HS.out, by have := HLN.out; simp; omega, HST.out.1, HST.out.2⟩
                  case measure => simp [lenOf]
              | false =>
                have hle2 : (Op.bytesLess x.2.toList y.2.toList || x.2.toList == y.2.toList) = false := hle
                have hle3 : Op.bytesLess x.2.toList y.2.toList = false := by simp at hle2; exact hle2.1
                have hle4 : (x.2.toList == y.2.toList) = false := by rw [hle3] at hle2; simpa using hle2
                have HS := Lib.hid (show (M ++ [y]) ++ mergeL (x :: la') lb' = mergeL xs ys from by
                  rw [← HMM.out, mergeL_right _ _ _ _ hle]; simp)
                clear hle hle2
                by_cases hc1 : cb = 1
                · obtain rfl : nb' = 0 := by omega
                  obtain rfl : lb' = [] := List.eq_nil_of_length_eq_zero (by have := HLB.out.1; simpa using this)
                  subst hc1
                  go_wp2_with fail
                  go_quiet (fail)
                  go_wp2_with (at_builtin; refine wpList_append_own_at _ rfl _ _ 23 rfl w.heap.size 31 i0 _ 2 24 Try.underlying23 hi hz0 hz1 hz2 rfl (by decide) _ _ _ rfl (by exact (HO.out.1.alloc _)) ⟨wr.heap.size, 0, none⟩ 1 1 [.int .i64 y.1, .string y.2] rfl rfl (by exact (letter_at _ y _ _ (by simp))) (letter_one y) (by have := HLN.out; unfold maxLen; omega) (by have := HLN.out; omega) (by simp; omega) ?_; intro v' w5 hown' hgrow _ hloc; clear hloc; have HST := Lib.hid (own_step hbel HO.out hym hown' hgrow); clear hown' hgrow)
                  go_roundw
                  case rel => exact ⟨_, _, _, (x :: la'), _, _, _, [], M ++ [y], rfl, rfl, HLA.out, LS.empty _ _ _ (by unfold maxLen; omega), HS.out, by have := HLN.out; simp; omega, HST.out.1, HST.out.2⟩
                  case measure => simp [lenOf]
                · have hc2 : 1 < cb := by omega
                  go_wp2_with fail
                  go_quiet (fail)
                  go_wp2_with (at_builtin; refine wpList_append_own_at _ rfl _ _ 23 rfl w.heap.size 31 i0 _ 2 24 Try.underlying23 hi hz0 hz1 hz2 rfl (by decide) _ _ _ rfl (by exact (HO.out.1.alloc _)) ⟨wr.heap.size, 0, none⟩ 1 1 [.int .i64 y.1, .string y.2] rfl rfl (by exact (letter_at _ y _ _ (by simp))) (letter_one y) (by have := HLN.out; unfold maxLen; omega) (by have := HLN.out; omega) (by simp; omega) ?_; intro v' w5 hown' hgrow _ hloc; clear hloc; have HST := Lib.hid (own_step hbel HO.out hym hown' hgrow); clear hown' hgrow)
                  go_roundw
                  case rel => exact ⟨_, _, _, (x :: la'), _, _, _, lb', M ++ [y], rfl, rfl, HLA.out, HLB.out.tail, HS.out, by have := HLN.out; simp; omega, HST.out.1, HST.out.2⟩
                  case measure => simp [lenOf]
            · obtain rfl : na = 0 := by omega
              obtain rfl : la = [] := List.eq_nil_of_length_eq_zero HLA.out.1
              have HS := Lib.hid (show (M ++ [y]) ++ mergeL [] lb' = mergeL xs ys from by
                rw [← HMM.out]; simp [mergeL])
              by_cases hc1 : cb = 1
              · obtain rfl : nb' = 0 := by omega
                obtain rfl : lb' = [] := List.eq_nil_of_length_eq_zero (by have := HLB.out.1; simpa using this)
                subst hc1
                go_wp2_with fail
                go_quiet (fail)
                go_wp2_with (at_builtin; refine wpList_append_own_at _ rfl _ _ 23 rfl w.heap.size 31 i0 _ 2 24 Try.underlying23 hi hz0 hz1 hz2 rfl (by decide) _ _ _ rfl (by exact (HO.out.1.alloc _)) ⟨wr.heap.size, 0, none⟩ 1 1 [.int .i64 y.1, .string y.2] rfl rfl (by exact (letter_at _ y _ _ (by simp))) (letter_one y) (by have := HLN.out; unfold maxLen; omega) (by have := HLN.out; omega) (by simp; omega) ?_; intro v' w5 hown' hgrow _ hloc; clear hloc; have HST := Lib.hid (own_step hbel HO.out hym hown' hgrow); clear hown' hgrow)
                go_roundw
                case rel => exact ⟨_, _, _, [], _, _, _, [], M ++ [y], rfl, rfl, HLA.out, LS.empty _ _ _ (by unfold maxLen; omega), HS.out, by have := HLN.out; simp; omega, HST.out.1, HST.out.2⟩
                case measure => simp [lenOf]
              · have hc2 : 1 < cb := by omega
                go_wp2_with fail
                go_quiet (fail)
                go_wp2_with (at_builtin; refine wpList_append_own_at _ rfl _ _ 23 rfl w.heap.size 31 i0 _ 2 24 Try.underlying23 hi hz0 hz1 hz2 rfl (by decide) _ _ _ rfl (by exact (HO.out.1.alloc _)) ⟨wr.heap.size, 0, none⟩ 1 1 [.int .i64 y.1, .string y.2] rfl rfl (by exact (letter_at _ y _ _ (by simp))) (letter_one y) (by have := HLN.out; unfold maxLen; omega) (by have := HLN.out; omega) (by simp; omega) ?_; intro v' w5 hown' hgrow _ hloc; clear hloc; have HST := Lib.hid (own_step hbel HO.out hym hown' hgrow); clear hown' hgrow)
                go_roundw
                case rel => exact ⟨_, _, _, [], _, _, _, lb', M ++ [y], rfl, rfl, HLA.out, HLB.out.tail, HS.out, by have := HLN.out; simp; omega, HST.out.1, HST.out.2⟩
                case measure => simp [lenOf]
          · obtain rfl : nb = 0 := by omega
            obtain rfl : lb = [] := List.eq_nil_of_length_eq_zero HLB.out.1
            by_cases hna : 0 < na
            · obtain ⟨g, off, x, la', na', hA, hn', hl', hxm, c0, c1⟩ := (HLA.out.ext hbel).first hna
              subst hA hn' hl'
              have had2 : decide (0 < (na' : Int) + 1) = true := decide_eq_true (by omega)
              have hai : (0 : Int) < (na' : Int) + 1 := by omega
              have HS := Lib.hid (show (M ++ [x]) ++ mergeL la' [] = mergeL xs ys from by
                rw [← HMM.out, mergeL_nil, mergeL_nil]; simp)
              by_cases hc1 : ca = 1
              · obtain rfl : na' = 0 := by omega
                obtain rfl : la' = [] := List.eq_nil_of_length_eq_zero (by have := HLA.out.1; simpa using this)
                subst hc1
                go_wp2_with fail
                go_quiet (fail)
                go_wp2_with (at_builtin; refine wpList_append_own_at _ rfl _ _ 23 rfl w.heap.size 31 i0 _ 2 24 Try.underlying23 hi hz0 hz1 hz2 rfl (by decide) _ _ _ rfl (by exact (HO.out.1.alloc _)) ⟨wr.heap.size, 0, none⟩ 1 1 [.int .i64 x.1, .string x.2] rfl rfl (by exact (letter_at _ x _ _ (by simp))) (letter_one x) (by have := HLN.out; unfold maxLen; omega) (by have := HLN.out; omega) (by simp; omega) ?_; intro v' w5 hown' hgrow _ hloc; clear hloc; have HST := Lib.hid (own_step hbel HO.out hxm hown' hgrow); clear hown' hgrow)
                go_roundw
                case rel => exact ⟨_, _, _, [], _, _, _, [], M ++ [x], rfl, rfl, LS.empty _ _ _ (by unfold maxLen; omega), HLB.out, HS.out, by have := HLN.out; simp; omega, HST.out.1, HST.out.2⟩
                case measure => simp [lenOf]
              · have hc2 : 1 < ca := by omega
                go_wp2_with fail
                go_quiet (fail)
                go_wp2_with (at_builtin; refine wpList_append_own_at _ rfl _ _ 23 rfl w.heap.size 31 i0 _ 2 24 Try.underlying23 hi hz0 hz1 hz2 rfl (by decide) _ _ _ rfl (by exact (HO.out.1.alloc _)) ⟨wr.heap.size, 0, none⟩ 1 1 [.int .i64 x.1, .string x.2] rfl rfl (by exact (letter_at _ x _ _ (by simp))) (letter_one x) (by have := HLN.out; unfold maxLen; omega) (by have := HLN.out; omega) (by simp; omega) ?_; intro v' w5 hown' hgrow _ hloc; clear hloc; have HST := Lib.hid (own_step hbel HO.out hxm hown' hgrow); clear hown' hgrow)
                go_roundw
                case rel => exact ⟨_, _, _, la', _, _, _, [], M ++ [x], rfl, rfl, HLA.out.tail, HLB.out, HS.out, by have := HLN.out; simp; omega, HST.out.1, HST.out.2⟩
                case measure => simp [lenOf]
            · obtain rfl : na = 0 := by omega
              obtain rfl : la = [] := List.eq_nil_of_length_eq_zero HLA.out.1
              obtain rfl : M = mergeL xs ys := by rw [← HMM.out]; simp [mergeL]
              go_wp2_with fail
              go_ret2
              exact ⟨_, ret_val (by rw [HOK.out]; rfl), by rw [HR.out]; exact HO.out, hbel⟩

end Go.Proofs.Ytafngfmloiikoaa
