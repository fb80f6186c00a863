/-
  THE LAW FnBinPass: plain facts and the walk. By an AI agent.
-/
import Derived.Test.YtafngfmloiikoaaDrawM
import Derived.Test.YtafngfmloiikoaaStab2
namespace Go.Proofs.Ytafngfmloiikoaa
open Go.RowKit

theorem binL_place {ls : List Ltr} (hb : batchB ls = true) {d k i : Nat} {x y : Ltr} (hx : (binL ls d k)[i]? = some x) (hy : (binL ls d k)[i + 1]? = some y) : findL ls x.1 < findL ls y.1 :=
  place_lt hb ((two_sub _ _ _ _ hx hy).trans List.filter_sublist)
theorem flat_take (bss : List (List Ltr)) (k : Nat) (b : List Ltr) (h : bss[k]? = some b) : ((bss.take (k + 1)).flatten).length = ((bss.take k).flatten).length + b.length := by
  rw [take_snoc' bss k b h]; simp
theorem flat_le (bss : List (List Ltr)) (k : Nat) : ((bss.take k).flatten).length ≤ bss.flatten.length := by
  have e := congrArg (fun x => x.flatten.length) (List.take_append_drop k bss)
  simp only [List.flatten_append, List.length_append] at e
  omega

/-- Four cells and a batch, kept by whatever makes new memory alone. -/
theorem keepF {u v x : World} {a0 a1 a2 a3 : Addr} {v0 v1 v2 v3 : Value} {A : Option Addr} {n c : Nat} {ls : List Ltr} (hb : Below u.heap.size u v)
    (h : u.cell? a0 = some v0 ∧ u.cell? a1 = some v1 ∧ u.cell? a2 = some v2 ∧ u.cell? a3 = some v3 ∧ Hid (LS u A n c ls) ∧ Hid (Below x.heap.size x u)) :
    v.cell? a0 = some v0 ∧ v.cell? a1 = some v1 ∧ v.cell? a2 = some v2 ∧ v.cell? a3 = some v3 ∧ Hid (LS v A n c ls) ∧ Hid (Below x.heap.size x v) :=
  ⟨cell_later hb h.1, cell_later hb h.2.1, cell_later hb h.2.2.1, cell_later hb h.2.2.2.1, Lib.hid (h.2.2.2.2.1.out.ext hb), Lib.hid (ext_trans h.2.2.2.2.2.out hb)⟩
theorem lsF {u x : World} {a0 a1 a2 a3 : Addr} {v0 v1 v2 v3 : Value} {A : Option Addr} {n c : Nat} {ls : List Ltr}
    (h : u.cell? a0 = some v0 ∧ u.cell? a1 = some v1 ∧ u.cell? a2 = some v2 ∧ u.cell? a3 = some v3 ∧ Hid (LS u A n c ls) ∧ Hid (Below x.heap.size x u)) : LS u A n c ls := h.2.2.2.2.1.out
theorem blF {u x : World} {a0 a1 a2 a3 : Addr} {v0 v1 v2 v3 : Value} {A : Option Addr} {n c : Nat} {ls : List Ltr}
    (h : u.cell? a0 = some v0 ∧ u.cell? a1 = some v1 ∧ u.cell? a2 = some v2 ∧ u.cell? a3 = some v3 ∧ Hid (LS u A n c ls) ∧ Hid (Below x.heap.size x u)) : Below x.heap.size x u := h.2.2.2.2.2.out
theorem cG0 {u x : World} {a0 a1 : Addr} {v0 v1 : Value} {A A2 : Option Addr} {n c n2 c2 : Nat} {ls ls2 : List Ltr}
    (h : u.cell? a0 = some v0 ∧ u.cell? a1 = some v1 ∧ Hid (LS u A n c ls) ∧ Hid (LS u A2 n2 c2 ls2) ∧ Hid (Below x.heap.size x u)) : u.cell? a0 = some v0 := h.1
/-- Two slices in cells, and the letters in them. -/
theorem keepG {u v x : World} {a0 a1 : Addr} {v0 v1 : Value} {A A2 : Option Addr} {n c n2 c2 : Nat} {ls ls2 : List Ltr} (hb : Below u.heap.size u v)
    (h : u.cell? a0 = some v0 ∧ u.cell? a1 = some v1 ∧ Hid (LS u A n c ls) ∧ Hid (LS u A2 n2 c2 ls2) ∧ Hid (Below x.heap.size x u)) :
    v.cell? a0 = some v0 ∧ v.cell? a1 = some v1 ∧ Hid (LS v A n c ls) ∧ Hid (LS v A2 n2 c2 ls2) ∧ Hid (Below x.heap.size x v) :=
  ⟨cell_later hb h.1, cell_later hb h.2.1, Lib.hid (h.2.2.1.out.ext hb), Lib.hid (h.2.2.2.1.out.ext hb), Lib.hid (ext_trans h.2.2.2.2.out hb)⟩
theorem lsG {u x : World} {a0 a1 : Addr} {v0 v1 : Value} {A A2 : Option Addr} {n c n2 c2 : Nat} {ls ls2 : List Ltr}
    (h : u.cell? a0 = some v0 ∧ u.cell? a1 = some v1 ∧ Hid (LS u A n c ls) ∧ Hid (LS u A2 n2 c2 ls2) ∧ Hid (Below x.heap.size x u)) : LS u A n c ls := h.2.2.1.out
theorem lsG2 {u x : World} {a0 a1 : Addr} {v0 v1 : Value} {A A2 : Option Addr} {n c n2 c2 : Nat} {ls ls2 : List Ltr}
    (h : u.cell? a0 = some v0 ∧ u.cell? a1 = some v1 ∧ Hid (LS u A n c ls) ∧ Hid (LS u A2 n2 c2 ls2) ∧ Hid (Below x.heap.size x u)) : LS u A2 n2 c2 ls2 := h.2.2.2.1.out
theorem blG {u x : World} {a0 a1 : Addr} {v0 v1 : Value} {A A2 : Option Addr} {n c n2 c2 : Nat} {ls ls2 : List Ltr}
    (h : u.cell? a0 = some v0 ∧ u.cell? a1 = some v1 ∧ Hid (LS u A n c ls) ∧ Hid (LS u A2 n2 c2 ls2) ∧ Hid (Below x.heap.size x u)) : Below x.heap.size x u := h.2.2.2.2.out

set_option maxRecDepth 100000 in
set_option maxHeartbeats 8000000 in
theorem law_FnBinPass (a : Option Addr) (len cap : Nat) (w : World) (h : BytesIn w a len cap) :
    Calls Try.prog 3 #[.slice a len cap] w fun e w' => e = .returned (.bool true) ∧ Below w.heap.size w w' := by
  have HC := Lib.hid h
  have hlen : len ≤ 9223372036854775807 := by have := h.1; have := h.2.1; unfold maxLen at this; omega
  clear h
  by_cases hbig : len ≤ 1048576
  · go_enter Try.func3, Try.ntmps3
    go_wp2_with fail
    refine (DrawBinPass_any _ _ _ _ HC.out).mono ?_
    rintro e w1 ⟨v, ls, _, rfl, ho, hl61, ⟨di, rfl⟩, hb1⟩
    obtain ⟨A, c, rfl, hls⟩ := ho.read
    obtain ⟨n, hn⟩ : ∃ n, ls.length = n := ⟨_, rfl⟩
    rw [hn] at hls hl61 ⊢
    have HN := Lib.hid hn
    have HL := Lib.hid hls
    have HBW := Lib.hid hb1
    clear ho hls hn hb1
    go_wp2_with fail
    refine (impl_BinPass _ _ _ _ _ _ HL.out).mono ?_
    rintro e w2 ⟨v2, vs2, rfl, ho2, hb2⟩
    obtain ⟨A2, c2, rfl, hl2, _⟩ := ho2.read
    replace HL := Lib.hid (HL.out.ext hb2)
    replace HBW := Lib.hid (ext_trans HBW.out hb2)
    have HL2 := Lib.hid hl2
    clear hb2 ho2 hl2
    go_wp2_with fail
    refine (spec_BinPass _ _ _ _ _ _ HL.out).mono ?_
    rintro e w3 ⟨v3, vs3, rfl, ho3, hb3⟩
    obtain ⟨A3, c3, rfl, hl3, _⟩ := ho3.read
    replace HL := Lib.hid (HL.out.ext hb3)
    replace HL2 := Lib.hid (HL2.out.ext hb3)
    replace HBW := Lib.hid (ext_trans HBW.out hb3)
    have HL3 := Lib.hid hl3
    clear hb3 ho3 hl3
    obtain ⟨m, hm⟩ : ∃ m, (binsR ls di).length = m := ⟨_, rfl⟩
    rw [hm] at HL2 HL3 ⊢
    have HM := Lib.hid hm
    clear hm
    cases hbb : binOk ls di with
    | false =>
      clear hbb
      go_wp2_with fail
      go_ret
      exact ⟨rfl, HBW.out⟩
    | true =>
      obtain ⟨hB, hd0, hd7⟩ := binOk_parts hbb
      obtain ⟨d, rfl⟩ : ∃ d : Nat, di = d := ⟨di.toNat, by omega⟩
      have hd : d < 7 := by omega
      have HB := Lib.hid hB
      have hn60 := batch_len hB
      rw [HN.out] at hn60
      have HE := Lib.hid (show binsR ls (d : Int) = binsL ls d from by simp [binsR, hbb])
      rw [HE.out] at HL2 HL3 HM
      obtain rfl : m = 10 := by rw [← HM.out]; exact binsL_len ls d
      have HT := Lib.hid (show (binsL ls d).flatten.length = n from by rw [← HN.out]; exact (passL_perm ls d (batch_digs hB d hd)).length_eq)
      clear hbb hB hd0 hd7
      go_wp2_with fail
      go_loopw [9, 10] (fun nv kv wr => ∃ k N : Nat, k ≤ 10 ∧ kv = .int .i64 k ∧ nv = .int .i64 N ∧ ((binsL ls d).take k).flatten.length = N ∧ Below w3.heap.size w3 wr) (fun _ kv _ => 10 - (intOf kv).toNat)
      case atStart => exact ⟨0, 0, by omega, rfl, rfl, rfl, Below.refl _ _⟩
      case round =>
        obtain ⟨k, N, hk, rfl, rfl, hNN, hbel⟩ := hrel
        have HNN := Lib.hid hNN
        have hN60 : N ≤ 60 := by have := flat_le (binsL ls d) k; have := HT.out; omega
        clear hNN
        by_cases hk10 : k < 10
        · obtain ⟨g, off, b, A', n', c', rfl, hbk, e0, hlb, _⟩ := (HL2.out.ext hbel).at_ k hk10
          obtain ⟨g3, off3, b3, A3', n3', c3', rfl, hbk3, f0, hlb3, _⟩ := (HL3.out.ext hbel).at_ k hk10
          obtain rfl : b3 = b := by rw [hbk] at hbk3; injection hbk3 with h; exact h.symm
          obtain rfl : n3' = n' := hlb3.1.symm.trans hlb.1
          obtain rfl : b3 = binL ls d k := by rw [binsL_at ls d k hk10] at hbk; injection hbk with h; exact h.symm
          have HNS := Lib.hid (flat_take _ _ _ hbk)
          have hn3 : n3' ≤ 60 := by rw [← hlb.1]; exact Nat.le_trans (binL_le ls d k) (by rw [HN.out]; exact hn60)
          have HNB := Lib.hid hlb.1
          have HLB := Lib.hid (show LS wr.drew A' n3' c' (binL ls d k) from hlb.ext (Below.drew (Below.refl _ _)))
          have HLB3 := Lib.hid (show LS wr.drew A3' n3' c3' (binL ls d k) from hlb3.ext (Below.drew (Below.refl _ _)))
          have HBI := Lib.hid (show Below w3.heap.size w3 wr.drew from Below.drew hbel)
          have hkd : decide ((k : Int) < 10) = true := by simp; omega
          have hki : (k : Int) < 10 := by omega
          have hki2 : (k : Int) < ((10 : Nat) : Int) := by omega
          clear hbk hbk3 hlb hlb3 hbel
          go_wp2_with fail
          go_region_held3 (fun u => u.cell? ⟨g, off + k, none⟩ = some (.slice A' n3' c') ∧ u.cell? ⟨g3, off3 + k, none⟩ = some (.slice A3' n3' c3') ∧ Hid (LS u A' n3' c' (binL ls d k)) ∧ Hid (LS u A3' n3' c3' (binL ls d k)) ∧ Hid (Below w3.heap.size w3 u)) (first | exact ⟨e0, f0, HLB, HLB3, HBI⟩ | assumption | exact keepG hb4 (by assumption)) (first | (go_at_call 18; refine (soBatch_same _ _ _ _ _ _ _ _ (lsG (by assumption)) (lsG2 (by assumption))).mono ?_; rintro e w4 ⟨rfl, hb4⟩))
          have e4 : w4.cell? ⟨g, off + k, none⟩ = some (.slice A' n3' c') := cG0 (by assumption)
          have HLB4 := Lib.hid (show LS w4 A' n3' c' (binL ls d k) from lsG (by assumption))
          have HB4 := Lib.hid (show Below w3.heap.size w3 w4 from blG (by assumption))
          have HL4 := Lib.hid (HL.out.ext HB4.out)
          clear HLB HLB3 HBI hb4
          go_wp2_with fail
          go_loopw [9, 11] (fun nv iv wr => ∃ i : Nat, i ≤ n3' ∧ iv = .int .i64 i ∧ nv = .int .i64 ((N : Int) + (i : Int)) ∧ Below w4.heap.size w4 wr) (fun _ iv _ => n3' - (intOf iv).toNat)
          case atStart => exact ⟨0, by omega, rfl, by simp, Below.refl _ _⟩
          case round =>
            obtain ⟨i, hi, rfl, rfl, hbi⟩ := hrel
            have e5 := cell_later hbi e4
            by_cases hin : i < n3'
            · obtain ⟨gb, offb, x, hA, hx, _, c0, c1⟩ := (HLB4.out.ext hbi).at_ i hin
              obtain ⟨hxm, hxd⟩ := mem_binL.1 (List.mem_of_getElem? hx)
              have hdx : d < x.2.size := by rw [batch_sz HB.out x hxm]; exact hd
              have ex := dig_eq x.2 d hdx
              have hval : (x.2[d].toNat : Int) = (k : Int) + 48 := by rw [ex, hxd]; omega
              have hidd : decide ((i : Int) < (n3' : Int)) = true := by simp; omega
              have hii : (i : Int) < (n3' : Int) := by omega
              have hkk : (k : Int) < 10 := by omega
              have HLX := Lib.hid (show LS (wr.alloc (.cells #[.int .i64 x.1, .string x.2] 31)).drew A n c ls from (HL4.out.ext hbi).ext (Below.drew (below_box _ _)))
              have HBI := Lib.hid (show Below w4.heap.size w4 (wr.alloc (.cells #[.int .i64 x.1, .string x.2] 31)).drew from Below.drew (ext_alloc hbi _))
              by_cases hi0 : i = 0
              · have hi0d : decide ((0 : Int) < (i : Int)) = false := by simp; omega
                have hi0n : decide (0 < i) = false := by simp; omega
                have hwk : IntKind.i64.wrap (k : Int) = (k : Int) := IntWalk.i64_in _ (by omega)
                have hwk2 : IntKind.i64.wrap ((k : Int) + 48) = (k : Int) + 48 := IntWalk.i64_in _ (by omega)
                have hkk2 : ((k : Int) != (k : Int)) = false := by simp
                clear hx hxm hxd ex HLX HBI hi0
                go_wp2_with fail
                go_quiet (fail)
                clear hwk hwk2 hkk2 hval
                go_wp2_with fail
                go_roundw
                case rel => exact ⟨i + 1, by omega, by go_num, by go_num, (by repeat (first | exact Below.refl _ _ | assumption | refine ext_alloc ?_ _ | refine Below.drew ?_ | refine below_drewN' ?_ _ | refine ext_set ?_ (by first | (simp; done) | (simp; omega) | omega) _ | refine ext_trans ?_ (by assumption)))⟩
                case measure => simp [intOf]; omega
              · obtain ⟨p, rfl⟩ : ∃ p, i = p + 1 := ⟨i - 1, by omega⟩
                have hp0 : (0 : Int) < (p : Int) + 1 := by omega
                have hp0d : decide ((0 : Int) < (p : Int) + 1) = true := by first | (simp; done) | (simp; omega)
                obtain ⟨gb2, offb2, y, hA2, hy, _, d0, d1⟩ := (HLB4.out.ext hbi).at_ p (by omega)
                subst hA
                injection hA2 with hA2
                injection hA2 with hg1 hg2
                subst hg1 hg2
                have hpl := binL_place HB.out hy hx
                have hle : decide (findL ls x.1 ≤ findL ls y.1) = false := by simp; omega
                have hpn : (p : Int) < (n3' : Int) := by omega
                have hpn1 : (p : Int) + 1 < (n3' : Int) := by omega
                have b0 : (wr.alloc (.cells #[.int .i64 x.1, .string x.2] 31)).cell? ⟨wr.heap.size, 0, none⟩ = some (.int .i64 x.1) := (Row.made wr _ #[.int .i64 x.1, .string x.2]).cell 0
                have b1 : (wr.alloc (.cells #[.int .i64 x.1, .string x.2] 31)).cell? ⟨wr.heap.size, 1, none⟩ = some (.string x.2) := (Row.made wr _ #[.int .i64 x.1, .string x.2]).cell 1
                have b2 : (wr.alloc (.cells #[.int .i64 x.1, .string x.2] 31)).cell? ⟨g, off + k, none⟩ = some (.slice (some ⟨gb, offb, none⟩) n3' c') := cell_later (below_box _ _) e5
                have b3 : (wr.alloc (.cells #[.int .i64 x.1, .string x.2] 31)).cell? ⟨gb, offb + p * 2, none⟩ = some (.int .i64 y.1) := cell_later (below_box _ _) d0
                clear hx hy hxm hxd ex hpl d1
                go_wp2_with fail
                have hwk : IntKind.i64.wrap (k : Int) = (k : Int) := IntWalk.i64_in _ (by omega)
                have hwk2 : IntKind.i64.wrap ((k : Int) + 48) = (k : Int) + 48 := IntWalk.i64_in _ (by omega)
                have hkk2 : ((k : Int) != (k : Int)) = false := by simp
                have hwp : IntKind.i64.wrap (p : Int) = (p : Int) := IntWalk.i64_in _ (by omega)
                go_region_held3 (fun u => u.cell? ⟨wr.heap.size, 0, none⟩ = some (.int .i64 x.1) ∧ u.cell? ⟨wr.heap.size, 1, none⟩ = some (.string x.2) ∧ u.cell? ⟨g, off + k, none⟩ = some (.slice (some ⟨gb, offb, none⟩) n3' c') ∧ u.cell? ⟨gb, offb + p * 2, none⟩ = some (.int .i64 y.1) ∧ Hid (LS u A n c ls) ∧ Hid (Below w4.heap.size w4 u)) (first | exact ⟨b0, b1, b2, b3, HLX, HBI⟩ | assumption | exact keepF hb6 (by assumption)) (first | (go_at_call 19; refine (soPlace_any _ _ _ ls _ _ (lsF (by assumption))).mono ?_; rintro e w6 ⟨rfl, hb6⟩))
                clear hwk hwk2 hkk2 hwp hval
                go_wp2_with fail
                go_roundw
                case rel => exact ⟨p + 1 + 1, by omega, by go_num, by go_num, blF (by assumption)⟩
                case measure => simp [intOf]; omega
            · obtain rfl : i = n3' := by omega
              have hidd : decide ((i : Int) < (i : Int)) = false := by simp
              have HN4 := Lib.hid (show ((binsL ls d).take (k + 1)).flatten.length = N + i from by rw [HNS.out, HNN.out, HNB.out])
              go_wp2_with fail
              go_roundw
              case rel => exact ⟨k + 1, N + i, by omega, by go_num, by go_num, HN4.out, ext_trans HB4.out hbi⟩
              case measure => simp [intOf]; omega
        · obtain rfl : k = 10 := by omega
          have hNn : N = n := by rw [← HNN.out, ← HT.out, List.take_of_length_le (by rw [binsL_len]; exact Nat.le_refl _)]
          subst hNn
          replace HBW := Lib.hid (ext_trans HBW.out hbel)
          clear hbel
          go_wp2_with fail
          go_ret
          exact ⟨rfl, HBW.out⟩
  · go_enter Try.func3, Try.ntmps3
    go_wp2_with fail
    go_ret
    exact ⟨rfl, (by repeat (first | exact Below.refl _ _ | assumption | refine ext_alloc ?_ _ | refine Below.drew ?_ | refine below_drewN' ?_ _ | refine ext_set ?_ (by first | (simp; done) | (simp; omega) | omega) _ | refine ext_trans ?_ (by assumption)))⟩

end Go.Proofs.Ytafngfmloiikoaa
