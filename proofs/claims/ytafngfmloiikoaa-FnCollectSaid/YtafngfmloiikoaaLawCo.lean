/-
  THE LAW FnCollect: plain facts and the walk. By an AI agent.
-/
import Derived.Test.YtafngfmloiikoaaDrawC
import Derived.Test.YtafngfmloiikoaaLater
import Derived.Test.YtafngfmloiikoaaPass
namespace Go.Proofs.Ytafngfmloiikoaa
open Go.RowKit

theorem coll_take (bss : List (List Ltr)) (k : Nat) (b : List Ltr) (h : bss[k]? = some b) : ((bss.take (k + 1)).flatten).length = ((bss.take k).flatten).length + b.length := by
  rw [take_snoc' bss k b h]; simp
theorem coll_le (bss : List (List Ltr)) (k : Nat) : ((bss.take k).flatten).length ≤ bss.flatten.length := by
  have e := congrArg (fun x => x.flatten.length) (List.take_append_drop k bss)
  simp only [List.flatten_append, List.length_append] at e
  omega
theorem coll_mid (bss : List (List Ltr)) (k : Nat) (b : List Ltr) (h : bss[k]? = some b) : ((bss.flatten.drop ((bss.take k).flatten).length).take b.length) = b := by
  have e : bss.flatten = (bss.take (k + 1)).flatten ++ (bss.drop (k + 1)).flatten := by
    rw [← List.flatten_append, List.take_append_drop]
  rw [take_snoc' bss k b h] at e
  rw [e, List.flatten_append, List.append_assoc, List.drop_left]
  simp
theorem own_flat2 {w : World} {B : Nat} {A : Option Addr} {n cap : Nat} {ls : List Ltr} (h : Own w B (.slice A n cap) ls) : ∀ ad, A = some ad → ∃ g off : Nat, ad = ⟨g, off, none⟩ := by
  intro ad hA
  rcases h.1.2 with ⟨hv, _⟩ | ⟨g, cap', cur, hv, _⟩
  · simp at hv; rw [hA] at hv; cases hv.1
  · simp at hv; rw [hA] at hv; injection hv.1 with h1; exact ⟨g, 0, h1⟩
theorem LS.mid {w : World} {g off n cap : Nat} {ls : List Ltr} (h : LS w (some ⟨g, off, none⟩) n cap ls) (k m : Nat) (hk : k + m ≤ n) : LS w (some ⟨g, off + k * 2, none⟩) m (cap - k) ((ls.drop k).take m) := by
  obtain ⟨h1, h2, h3, h4, h5⟩ := h
  refine ⟨by rw [List.length_take, List.length_drop]; omega, by omega, by omega, fun l hl => h4 l (List.mem_of_mem_drop (List.mem_of_mem_take hl)), fun h0 => ⟨g, off + k * 2, rfl, fun i hi => ?_⟩⟩
  obtain ⟨g', off', ha, hc⟩ := h5 (by omega)
  simp at ha
  obtain ⟨rfl, rfl⟩ := ha
  have hi' : k + i < ls.length := by simp at hi; omega
  have := hc (k + i) hi'
  rw [List.getElem_take, List.getElem_drop, show off + k * 2 + i * 2 = off + (k + i) * 2 by omega]
  exact this

theorem same_bare (A : Option Addr) (n cap : Nat) (A2 : Option Addr) (n2 cap2 : Nat) (ls : List Ltr) (w : World) (h : LS w A n cap ls) (h2 : LS w A2 n2 cap2 ls) :
    Calls Try.prog 18 #[.slice A n cap, .slice A2 n2 cap2] w fun e w' => e = .returned (.bool true) ∧ Below w.heap.size w w' := soBatch_same A n cap A2 n2 cap2 ls w h h2
set_option maxRecDepth 100000 in
set_option maxHeartbeats 8000000 in
theorem law_FnCollect (a : Option Addr) (len cap : Nat) (w : World) (h : BytesIn w a len cap) :
    Calls Try.prog 5 #[.slice a len cap] w fun e w' => e = .returned (.bool true) ∧ Below w.heap.size w w' := by
  have HC := Lib.hid h
  have hlen : len ≤ 9223372036854775807 := by have := h.1; have := h.2.1; unfold maxLen at this; omega
  clear h
  by_cases hbig : len ≤ 1048576
  · go_enter Try.func5, Try.ntmps5
    go_wp2_with fail
    refine (DrawCollectBins_any _ _ _ _ HC.out).mono ?_
    rintro e w1 ⟨A, n, c, bss, rfl, hls, hn61, hfl, hb1⟩
    have HN := Lib.hid hls.1
    have HL := Lib.hid hls
    have HF := Lib.hid hfl
    have HBW := Lib.hid hb1
    clear hls hfl hb1
    go_wp2_with fail
    refine (impl_CollectBins _ _ _ _ _ HL.out).mono ?_
    rintro e w2 ⟨v2, rfl, ho2, hb2⟩
    have HNC := Lib.hid (fun (A : Option Addr) (m c : Nat) (hv : v2 = .slice A m c) => show A = none → c = 0 from by subst hv; exact ho2.nilcap)
    have HF2 := Lib.hid (fun (A : Option Addr) (m c : Nat) (hv : v2 = .slice A m c) => show ∀ ad, A = some ad → ∃ g off : Nat, ad = ⟨g, off, none⟩ from by subst hv; exact own_flat2 ho2)
    obtain ⟨A2, c2, hv2, hl2⟩ := ho2.read
    replace HNC := Lib.hid (HNC.out _ _ _ hv2)
    replace HF2 := Lib.hid (HF2.out _ _ _ hv2)
    subst hv2
    replace HL := Lib.hid (HL.out.ext hb2)
    replace HBW := Lib.hid (ext_trans HBW.out hb2)
    have HL2 := Lib.hid hl2
    clear hb2 ho2 hl2
    go_wp2_with fail
    refine (spec_CollectBins _ _ _ _ _ HL.out (by have := HF.out; omega)).mono ?_
    rintro e w3 ⟨v3, rfl, ho3, hb3⟩
    obtain ⟨A3, c3, rfl, hl3⟩ := ho3.read
    replace HL := Lib.hid (HL.out.ext hb3)
    replace HL2 := Lib.hid (HL2.out.ext hb3)
    replace HBW := Lib.hid (ext_trans HBW.out hb3)
    have HL3 := Lib.hid hl3
    clear hb3 ho3 hl3
    obtain ⟨m, hm⟩ : ∃ m, (collR bss).length = m := ⟨_, rfl⟩
    rw [hm] at HL2 HL3 ⊢
    have HM := Lib.hid hm
    clear hm
    go_wp2_with fail
    refine (soBatch_same _ _ _ _ _ _ _ _ HL2.out HL3.out).mono ?_
    rintro e w4 ⟨rfl, hb4⟩
    replace HL := Lib.hid (HL.out.ext hb4)
    replace HL2 := Lib.hid (HL2.out.ext hb4)
    replace HL3 := Lib.hid (HL3.out.ext hb4)
    replace HBW := Lib.hid (ext_trans HBW.out hb4)
    clear hb4
    cases hbb : collOk bss with
    | false =>
      clear hbb
      go_wp2_with fail
      refine (soBatch_same _ _ _ _ _ _ _ _ HL2.out HL3.out).mono ?_
      rintro e w5 ⟨rfl, hb5⟩
      replace HBW := Lib.hid (ext_trans HBW.out hb5)
      clear hb5
      go_wp2_with fail
      go_ret
      exact ⟨rfl, HBW.out⟩
    | true =>
      have hcr : collR bss = bss.flatten := by simp [collR, hbb]
      have hp := hbb
      simp only [collOk, Bool.and_eq_true, decide_eq_true_eq] at hp
      have hm60 : m ≤ 60 := by have h := batch_len hp.2; rw [← hcr, HM.out] at h; exact h
      have hn60 : n ≤ 60 := by rw [← HN.out]; exact hp.1
      rw [hcr] at HL2 HM
      clear hbb hp hcr HL3
      have hmc : m ≤ c2 := HL2.out.2.1
      have hcm : c2 ≤ 9223372036854775807 := by have := HL2.out.2.2.1; unfold maxLen at this; omega
      go_wp2_with fail
      go_loopw [8, 9] (fun tv iv wr => ∃ k N : Nat, k ≤ n ∧ iv = .int .i64 k ∧ tv = .int .i64 N ∧ (bss.take k).flatten.length = N ∧ Below w4.heap.size w4 wr) (fun _ iv _ => n - (intOf iv).toNat)
      case atStart => exact ⟨0, 0, by omega, rfl, rfl, rfl, Below.refl _ _⟩
      case round =>
        obtain ⟨k, N, hk, rfl, rfl, hNN, hbel⟩ := hrel
        have HNN := Lib.hid hNN
        have hNm0 : N ≤ m := by have h1 := coll_le bss k; have h2 := HM.out; omega
        clear hNN
        by_cases hkn : k < n
        · obtain ⟨g, off, b, A', n', c', rfl, hbk, e0, hlb, _⟩ := (HL.out.ext hbel).at_ k hkn
          have HNB := Lib.hid hlb.1
          have hNS := coll_take bss k b hbk
          rw [HNN.out, HNB.out] at hNS
          have hNm : N + n' ≤ m := by have h2 := coll_le bss (k + 1); have h3 := HM.out; omega
          have HNS := Lib.hid hNS
          have hMID := coll_mid bss k b hbk
          rw [HNN.out, HNB.out] at hMID
          have HMID := Lib.hid hMID
          have HLB := Lib.hid hlb
          have hgt : decide ((m : Int) < (N : Int) + (n' : Int)) = false := by simp; omega
          have hgt2 : decide (m < N + n') = false := by simp; omega
          have hki : (k : Int) < (n : Int) := by omega
          have hkd : decide ((k : Int) < (n : Int)) = true := by simp; omega
          have hwN : IntKind.i64.wrap ((N : Int) + (n' : Int)) = (N : Int) + (n' : Int) := IntWalk.i64_in _ (by omega)
          have k0 : ∀ p : LaterW wr, p.u.cell? ⟨g, off + k, none⟩ = some (.slice A' n' c') := fun p => cell_later p.ok e0
          clear hNS hMID hbk hlb
          cases A2 with
          | none =>
            obtain rfl : c2 = 0 := HNC.out rfl
            obtain rfl : m = 0 := by omega
            obtain rfl : N = 0 := by omega
            have hw0 : IntKind.i64.wrap 0 = 0 := by decide
            obtain rfl : n' = 0 := by omega
            obtain rfl : b = [] := List.eq_nil_of_length_eq_zero HNB.out
            have HLS := Lib.hid (show LS wr none 0 0 [] from LS.empty _ _ _ (by unfold maxLen; omega))
            have HFC := Lib.hid (fun p : LaterW wr => later_of (same_bare _ _ _ _ _ _ _ _ (HLS.out.ext p.ok) (HLB.out.ext p.ok)))
            go_wp2_with fail
            refine wp_region_later (by kernel_rfl) (by kernel_rfl) ?_; (repeat (go_big_quiet_step (first | (go_at_call 18; exact HFC.out _)))); refine wpQuiet_nil ?_; intro uL hL
            have e5 : uL.cell? ⟨g, off + k, none⟩ = some (.slice A' 0 c') := cell_later hL e0
            have HB5 := Lib.hid (ext_trans hbel hL)
            clear k0
            go_wp2_with fail
            go_roundw
            case rel => exact ⟨k + 1, 0 + 0, by omega, by go_num, by go_num, HNS.out, HB5.out⟩
            case measure => simp [intOf]; omega
          | some ad =>
            have hoff : ∃ g off : Nat, ad = ⟨g, off, none⟩ := HF2.out ad rfl
            obtain ⟨g2, off2, rfl⟩ := hoff
            by_cases hcN : c2 = N
            · have hn0 : n' = 0 := by omega
              obtain rfl : m = c2 := by omega
              subst hcN hn0
              have hgt : decide ((m : Int) < (m : Int)) = false := by simp
              have hgt2 : decide (m < m) = false := by simp
              have hwN2 : IntKind.i64.wrap (m : Int) = (m : Int) := IntWalk.i64_in _ (by omega)
              obtain rfl : b = [] := List.eq_nil_of_length_eq_zero HNB.out
              have HLS := Lib.hid (show LS wr (some ⟨g2, off2, none⟩) 0 0 [] from LS.empty _ _ _ (by unfold maxLen; omega))
              have HFC := Lib.hid (fun p : LaterW wr => later_of (same_bare _ _ _ _ _ _ _ _ (HLS.out.ext p.ok) (HLB.out.ext p.ok)))
              go_wp2_with fail
              refine wp_region_later (by kernel_rfl) (by kernel_rfl) ?_; (repeat (go_big_quiet_step (first | (go_at_call 18; exact HFC.out _)))); refine wpQuiet_nil ?_; intro uL hL
              have e5 : uL.cell? ⟨g, off + k, none⟩ = some (.slice A' 0 c') := cell_later hL e0
              have HB5 := Lib.hid (ext_trans hbel hL)
              clear k0
              go_wp2_with fail
              go_roundw
              case rel => exact ⟨k + 1, m + 0, by omega, by go_num, by go_num, HNS.out, HB5.out⟩
              case measure => simp [intOf]; omega
            · have hcN2 : ¬ c2 - N = 0 := by omega
              have hNc : N + n' ≤ c2 := by omega
              have hNc1 : (N : Int) + (n' : Int) ≤ (c2 : Int) := by omega
              have hNc2 : (N : Int) ≤ (N : Int) + (n' : Int) := by omega
              have hNc3 : (0 : Int) ≤ (N : Int) + (n' : Int) := by omega
              have hNc4 : N ≤ N + n' := by omega
              have heN : ((N : Int) + (n' : Int)).toNat = N + n' := by omega
              have heN2 : N + n' - N = n' := by omega
              have HLS := Lib.hid ((HL2.out.ext hbel).mid N n' hNm)
              rw [HMID.out] at HLS
              have HFC := Lib.hid (fun p : LaterW wr => later_of (same_bare _ _ _ _ _ _ _ _ (HLS.out.ext p.ok) (HLB.out.ext p.ok)))
              go_wp2_with fail
              refine wp_region_later (by kernel_rfl) (by kernel_rfl) ?_; (repeat (go_big_quiet_step (first | (go_at_call 18; exact HFC.out _)))); refine wpQuiet_nil ?_; intro uL hL
              have e5 : uL.cell? ⟨g, off + k, none⟩ = some (.slice A' n' c') := cell_later hL e0
              have HB5 := Lib.hid (ext_trans hbel hL)
              clear k0
              go_wp2_with fail
              go_roundw
              case rel => exact ⟨k + 1, N + n', by omega, by go_num, by go_num, HNS.out, HB5.out⟩
              case measure => simp [intOf]; omega
        · obtain rfl : k = n := by omega
          have hkd : decide ((k : Int) < (k : Int)) = false := by simp
          obtain rfl : N = m := by rw [← HNN.out, ← HM.out, List.take_of_length_le (by rw [HN.out]; exact Nat.le_refl _)]
          replace HBW := Lib.hid (ext_trans HBW.out hbel)
          clear hbel
          go_wp2_with fail
          go_ret
          exact ⟨rfl, HBW.out⟩
  · go_enter Try.func5, Try.ntmps5
    go_wp2_with fail
    go_ret
    exact ⟨rfl, (by repeat (first | exact Below.refl _ _ | assumption | refine ext_alloc ?_ _ | refine Below.drew ?_ | refine below_drewN' ?_ _ | refine ext_set ?_ (by first | (simp; done) | (simp; omega) | omega) _ | refine ext_trans ?_ (by assumption)))⟩

end Go.Proofs.Ytafngfmloiikoaa
