/-
  THE LAW FnFindLetter: plain facts and the walk. By an AI agent.
-/
import Derived.Test.YtkbbnobchmlmdaaDrawM
namespace Go.Proofs.Ytkbbnobchmlmdaa
open Go.RowKit

def cntI (ls : List Ltr) (id : Int) : Nat := ls.countP fun l => l.1 == id
theorem cntI_snoc (ls : List Ltr) (id : Int) (l : Ltr) : cntI (ls ++ [l]) id = cntI ls id + if l.1 = id then 1 else 0 := by
  unfold cntI; rw [List.countP_append]; by_cases h : l.1 = id <;> simp [h]
theorem cntI_le (ls : List Ltr) (id : Int) : cntI ls id ≤ ls.length := List.countP_le_length
theorem findI_cases (id : Int) : ∀ (ls : List Ltr) (k : Nat), (ls.map Prod.fst).Nodup →
    (findI ls id k = -1 ∧ cntI ls id = 0) ∨ (∃ (j : Nat) (l : Ltr), findI ls id k = (k : Int) + j ∧ ls[j]? = some l ∧ l.1 = id ∧ cntI ls id = 1)
  | [], k, _ => .inl ⟨rfl, rfl⟩
  | x :: xs, k, h => by
    simp only [List.map_cons, List.nodup_cons] at h
    by_cases e : x.1 = id
    · right
      refine ⟨0, x, by simp [findI, e], rfl, e, ?_⟩
      have h0 : cntI xs id = 0 := by
        unfold cntI; rw [List.countP_eq_zero]
        intro l hl hc
        simp at hc
        exact h.1 (by rw [e, ← hc]; exact List.mem_map_of_mem hl)
      unfold cntI at h0 ⊢
      rw [List.countP_cons, h0]; simp [e]
    · have hc : cntI (x :: xs) id = cntI xs id := by unfold cntI; rw [List.countP_cons]; simp [e]
      have hf : findI (x :: xs) id k = findI xs id (k + 1) := by simp [findI, e]
      rcases findI_cases id xs (k + 1) h.2 with ⟨h1, h2⟩ | ⟨j, l, h1, h2, h3, h4⟩
      · exact .inl ⟨by rw [hf]; exact h1, by rw [hc]; exact h2⟩
      · exact .inr ⟨j + 1, l, by rw [hf, h1]; push_cast; omega, by simpa using h2, h3, by rw [hc]; exact h4⟩
theorem findL_cases (ls : List Ltr) (id : Int) (h : batchB ls = true) :
    (findL ls id = -1 ∧ cntI ls id = 0) ∨ (∃ (j : Nat) (l : Ltr), findL ls id = (j : Int) ∧ ls[j]? = some l ∧ l.1 = id ∧ cntI ls id = 1) := by
  have hn := ((batchB_true ls).1 h).2.2
  have e : findL ls id = findI ls id 0 := by simp [findL, h]
  rcases findI_cases id ls 0 hn with ⟨h1, h2⟩ | ⟨j, l, h1, h2, h3, h4⟩
  · exact .inl ⟨by rw [e]; exact h1, h2⟩
  · exact .inr ⟨j, l, by rw [e, h1]; simp, h2, h3, h4⟩

set_option maxHeartbeats 4000000 in
theorem law_FnFindLetter (a : Option Addr) (len cap : Nat) (w : World) (h : BytesIn w a len cap) :
    Calls Try.prog 3 #[.slice a len cap] w fun e w' => e = .returned (.bool true) ∧ Below w.heap.size w w' := by
  have HC := Lib.hid h
  have hlen : len ≤ 9223372036854775807 := by have := h.1; have := h.2.1; unfold maxLen at this; omega
  clear h
  by_cases hbig : len ≤ 1048576
  · go_enter Try.func3, Try.ntmps3
    go_wp2_with fail
    refine (DrawFindLetter_any _ _ _ _ HC.out).mono ?_
    rintro e w1 ⟨v, ls, _, rfl, ho, hl61, ⟨id, rfl⟩, hb1⟩
    obtain ⟨A, c, rfl, hls⟩ := ho.read
    obtain ⟨n, hn⟩ : ∃ n, ls.length = n := ⟨_, rfl⟩
    rw [hn] at hls hl61 ⊢
    have HN := Lib.hid hn
    have HL := Lib.hid hls
    clear ho hls hn
    obtain ⟨K, hK⟩ : ∃ K, findL ls id = K := ⟨_, rfl⟩
    have HK := Lib.hid hK
    go_wp2_with fail
    refine (impl_FindLetter _ _ _ _ _ _ HL.out).mono ?_
    rintro e w2 ⟨rfl, hb2⟩
    rw [HK.out]
    replace HL := Lib.hid (HL.out.ext hb2)
    cases hbb : batchB ls with
    | false =>
      have hK1 : K = -1 := by rw [← HK.out]; simp [findL, hbb]
      subst hK1
      have HB := Lib.hid hbb
      clear hbb hK
      go_wp2_with fail
      refine (spec_FindLetter _ _ _ _ _ _ HL.out).mono ?_
      rintro e w3 ⟨rfl, hb3⟩
      rw [HK.out]
      replace HL := Lib.hid (HL.out.ext hb3)
      go_wp2_with fail
      refine (impl_BatchValid _ _ _ _ _ HL.out).mono ?_
      rintro e w4 ⟨rfl, hb4⟩
      rw [HB.out]
      replace HL := Lib.hid (HL.out.ext hb4)
      go_wp2_with fail
      refine (spec_FindLetter _ _ _ _ _ _ HL.out).mono ?_
      rintro e w5 ⟨rfl, hb5⟩
      rw [HK.out]
      replace HL := Lib.hid (HL.out.ext hb5)
      go_wp2_with fail
      refine (impl_BatchValid _ _ _ _ _ HL.out).mono ?_
      rintro e w6 ⟨rfl, hb6⟩
      rw [HB.out]
      go_wp2_with fail
      go_ret
      exact ⟨rfl, (by repeat (first | exact Below.refl _ _ | assumption | refine ext_alloc ?_ _ | refine Below.drew ?_ | refine below_drewN' ?_ _ | refine ext_set ?_ (by first | (simp; done) | (simp; omega) | omega) _ | refine ext_trans ?_ (by assumption)))⟩
    | true =>
      have HB := Lib.hid hbb
      have HCS := Lib.hid (findL_cases ls id hbb)
      clear hbb hK
      go_wp2_with fail
      refine (spec_FindLetter _ _ _ _ _ _ HL.out).mono ?_
      rintro e w3 ⟨rfl, hb3⟩
      rw [HK.out]
      replace HL := Lib.hid (HL.out.ext hb3)
      go_wp2_with fail
      refine (impl_BatchValid _ _ _ _ _ HL.out).mono ?_
      rintro e w4 ⟨rfl, hb4⟩
      rw [HB.out]
      replace HL := Lib.hid (HL.out.ext hb4)
      have hbw : Below w.heap.size w w4 := (by repeat (first | exact Below.refl _ _ | assumption | refine ext_alloc ?_ _ | refine Below.drew ?_ | refine below_drewN' ?_ _ | refine ext_set ?_ (by first | (simp; done) | (simp; omega) | omega) _ | refine ext_trans ?_ (by assumption)))
      clear hb1 hb2 hb3 hb4
      go_wp2_with fail
      go_loopw [6, 7] (fun nv iv wr => ∃ k : Nat, k ≤ n ∧ nv = .int .i64 (cntI (ls.take k) id : Nat) ∧ iv = .int .i64 k ∧ Below w4.heap.size w4 wr) (fun _ iv _ => n - (intOf iv).toNat)
      case atStart => exact ⟨0, by omega, rfl, rfl, Below.refl _ _⟩
      case round =>
        obtain ⟨k, hk, rfl, rfl, hbel⟩ := hrel
        by_cases hkn : k < n
        · obtain ⟨g, off, l, rfl, hlk, hlm, c0, c1⟩ := (HL.out.ext hbel).at_ k hkn
          have hsn := cntI_snoc (ls.take k) id l
          rw [← take_snoc' ls k l hlk] at hsn
          have hcl := cntI_le (ls.take k) id
          have htl := List.length_take_le k ls
          obtain ⟨q, hq⟩ : ∃ q, cntI (ls.take k) id = q := ⟨_, rfl⟩
          rw [hq] at hsn hcl ⊢
          have hkd : decide ((k : Int) < (n : Int)) = true := by simp; omega
          have hki : (k : Int) < (n : Int) := by omega
          have hq9 : q ≤ 61 := by omega
          have HSN := Lib.hid hsn
          clear hlk hsn hq hcl htl
          by_cases he : l.1 = id
          · have heq : (l.1 == id) = true := by simpa using he
            have HS1 := Lib.hid (show cntI (ls.take (k + 1)) id = q + 1 from by rw [HSN.out, if_pos he])
            clear he
            go_wp2_with fail
            go_roundw
            case rel => exact ⟨k + 1, by omega, by rw [HS1.out]; go_num, by go_num, (by repeat (first | exact Below.refl _ _ | assumption | refine ext_alloc ?_ _ | refine Below.drew ?_ | refine below_drewN' ?_ _ | refine ext_set ?_ (by first | (simp; done) | (simp; omega) | omega) _ | refine ext_trans ?_ (by assumption)))⟩
            case measure => simp [intOf]; omega
          · have heq : (l.1 == id) = false := by simpa using he
            have HS1 := Lib.hid (show cntI (ls.take (k + 1)) id = q from by rw [HSN.out, if_neg he]; rfl)
            clear he
            go_wp2_with fail
            go_roundw
            case rel => exact ⟨k + 1, by omega, by rw [HS1.out], by go_num, (by repeat (first | exact Below.refl _ _ | assumption | refine ext_alloc ?_ _ | refine Below.drew ?_ | refine below_drewN' ?_ _ | refine ext_set ?_ (by first | (simp; done) | (simp; omega) | omega) _ | refine ext_trans ?_ (by assumption)))⟩
            case measure => simp [intOf]; omega
        · have hkd : decide ((k : Int) < (n : Int)) = false := by simp; omega
          have hT : ls.take k = ls := List.take_of_length_le (by rw [HN.out]; omega)
          rw [hT]
          rcases HCS.out with ⟨h1, h2⟩ | ⟨j, l, h1, h2, h3, h4⟩
          · rw [HK.out] at h1
            subst h1
            rw [h2]
            clear h2 hT
            go_wp2_with fail
            go_ret
            exact ⟨rfl, (by repeat (first | exact Below.refl _ _ | assumption | refine ext_alloc ?_ _ | refine Below.drew ?_ | refine below_drewN' ?_ _ | refine ext_set ?_ (by first | (simp; done) | (simp; omega) | omega) _ | refine ext_trans ?_ (by assumption)))⟩
          · rw [HK.out] at h1
            subst h1
            rw [h4]
            have hjl := (List.getElem?_eq_some_iff.1 h2).1
            have hjn : j < n := by rw [← HN.out]; exact hjl
            obtain ⟨g, off, l', rfl, hlj, hlm, c0, c1⟩ := (HL.out.ext hbel).at_ j hjn
            obtain rfl : l' = l := by rw [h2] at hlj; injection hlj with hlj; exact hlj.symm
            have hj1 : ((j : Int) == -1) = false := by first | (simp; done) | (simp; omega)
            have hj2 : decide (0 ≤ (j : Int)) = true := by simp
            have hj3 : decide ((j : Int) < (n : Int)) = true := by simp; omega
            have hj4 : (j : Int) < (n : Int) := by omega
            have heq : (l'.1 == id) = true := by simpa using h3
            clear h2 h3 h4 hlj hT hjl
            go_wp2_with fail
            go_ret
            exact ⟨rfl, (by repeat (first | exact Below.refl _ _ | assumption | refine ext_alloc ?_ _ | refine Below.drew ?_ | refine below_drewN' ?_ _ | refine ext_set ?_ (by first | (simp; done) | (simp; omega) | omega) _ | refine ext_trans ?_ (by assumption)))⟩
  · go_enter Try.func3, Try.ntmps3
    go_wp2_with fail
    go_ret
    exact ⟨rfl, (by repeat (first | exact Below.refl _ _ | assumption | refine ext_alloc ?_ _ | refine Below.drew ?_ | refine below_drewN' ?_ _ | refine ext_set ?_ (by first | (simp; done) | (simp; omega) | omega) _ | refine ext_trans ?_ (by assumption)))⟩

end Go.Proofs.Ytkbbnobchmlmdaa
