/-
  WALKS: ParsePlace of the program and of the reference, and the law FnExactParsePlace. By an AI agent.
-/
import Derived.Test.YtcopkapcgabkmaaForm
namespace Go.Proofs.Ytcopkapcgabkmaa
open Go.RowKit

theorem dgB_sub (c : UInt8) (h : digB c = true) : dgB ((c.toNat : Int) - 48) = c := by
  simp [digB] at h
  unfold dgB
  rw [show (48 + ((c.toNat : Int) - 48)).toNat = c.toNat by omega]
  exact UInt8.ofNat_toNat

theorem pad_num3 (x y z : UInt8) (hx : digB x = true) (hy : digB y = true) (hz : digB z = true) : padL 3 (numD [x, y, z]) = [x, y, z] ∧ 0 ≤ numD [x, y, z] ∧ numD [x, y, z] ≤ 999 := by
  have h1 := dgB_sub x hx
  have h2 := dgB_sub y hy
  have h3 := dgB_sub z hz
  simp [digB] at hx hy hz
  have e : numD [x, y, z] = 100 * ((x.toNat : Int) - 48) + 10 * ((y.toNat : Int) - 48) + ((z.toNat : Int) - 48) := by simp [numD]; omega
  refine ⟨?_, by omega, by omega⟩
  rw [e]
  show [dgB _, dgB _, dgB _] = _
  rw [show (100 * ((x.toNat : Int) - 48) + 10 * ((y.toNat : Int) - 48) + ((z.toNat : Int) - 48)) / 10 / 10 % 10 = (x.toNat : Int) - 48 by omega,
    show (100 * ((x.toNat : Int) - 48) + 10 * ((y.toNat : Int) - 48) + ((z.toNat : Int) - 48)) / 10 % 10 = (y.toNat : Int) - 48 by omega,
    show (100 * ((x.toNat : Int) - 48) + 10 * ((y.toNat : Int) - 48) + ((z.toNat : Int) - 48)) % 10 = (z.toNat : Int) - 48 by omega, h1, h2, h3]

theorem pad_num2 (y z : UInt8) (hy : digB y = true) (hz : digB z = true) : padL 2 (numD [y, z]) = [y, z] ∧ 0 ≤ numD [y, z] ∧ numD [y, z] ≤ 99 := by
  have h2 := dgB_sub y hy
  have h3 := dgB_sub z hz
  simp [digB] at hy hz
  have e : numD [y, z] = 10 * ((y.toNat : Int) - 48) + ((z.toNat : Int) - 48) := by simp [numD]
  refine ⟨?_, by omega, by omega⟩
  rw [e]
  show [dgB _, dgB _] = _
  rw [show (10 * ((y.toNat : Int) - 48) + ((z.toNat : Int) - 48)) / 10 % 10 = (y.toNat : Int) - 48 by omega,
    show (10 * ((y.toNat : Int) - 48) + ((z.toNat : Int) - 48)) % 10 = (z.toNat : Int) - 48 by omega, h2, h3]

theorem list7 (l : List UInt8) (h : l.length = 7) : ∃ a b c d e f g, l = [a, b, c, d, e, f, g] := by
  match l, h with
  | [a, b, c, d, e, f, g], _ => exact ⟨a, b, c, d, e, f, g, rfl⟩
theorem list9 (l : List UInt8) (h : l.length = 9) : ∃ a b c d e f g x y, l = [a, b, c, d, e, f, g, x, y] := by
  match l, h with
  | [a, b, c, d, e, f, g, x, y], _ => exact ⟨a, b, c, d, e, f, g, x, y, rfl⟩

/-- A code is that of its place. -/
theorem code_back (s : ByteArray) (h : codeB s = true) : codeL (areaOf s) (walkOf s) (pointOf s) = s.data.toList ∧ placeB (areaOf s) (walkOf s) (pointOf s) = true := by
  obtain ⟨h7, hd⟩ := codeB_parts h
  obtain ⟨x0, x1, x2, x3, x4, x5, x6, e⟩ := list7 s.data.toList (by rw [Array.length_toList]; exact h7)
  rw [placeB_true]
  unfold areaOf walkOf pointOf codeL
  rw [e] at hd ⊢
  rw [h7]
  simp only [allDig, List.all_cons, List.all_nil, Bool.and_eq_true] at hd
  obtain ⟨d0, d1, d2, d3, d4, d5, d6, _⟩ := hd
  have p1 := pad_num3 x0 x1 x2 d0 d1 d2
  have p2 := pad_num2 x3 x4 d3 d4
  have p3 := pad_num2 x5 x6 d5 d6
  simp only [List.take, List.drop]
  rw [p1.1, p2.1, p3.1]
  exact ⟨rfl, p1.2.1, p1.2.2, p2.2.1, p2.2.2, p3.2.1, p3.2.2⟩

/-- What lies between the dashes. -/
def subT (t : ByteArray) : ByteArray := t.extract 0 3 ++ t.extract 4 6 ++ t.extract 7 t.size
def parseB (t : ByteArray) : Bool := decide (t.size = 9) && codeB (subT t) && decide (t.data.toList[3]? = some 45) && decide (t.data.toList[6]? = some 45)
def parseV (t : ByteArray) : Value := if parseB t = true then .tuple #[vPlace (areaOf (subT t)) (walkOf (subT t)) (pointOf (subT t)), .bool true] else .tuple #[vPlace 0 0 0, .bool false]
theorem subT_list (t : ByteArray) (a b c d e f g x y : UInt8) (h : t.data.toList = [a, b, c, d, e, f, g, x, y]) : (subT t).data.toList = [a, b, c, e, f, x, y] := by
  have hs : t.size = 9 := by rw [Lib.size_eq, h]; rfl
  unfold subT
  simp only [ByteArray.data_append, Array.toList_append, Lib.extract_data, h, hs]
  rfl
theorem subT_size (t : ByteArray) (h : t.size = 9) : (subT t).size = 7 := by
  obtain ⟨a, b, c, d, e, f, g, x, y, hl⟩ := list9 t.data.toList (by rw [Array.length_toList]; exact h)
  rw [Lib.size_eq, subT_list t a b c d e f g x y hl]; rfl

/-- The text of the place that is read between the dashes is the text itself, exactly if it is parsed. -/
theorem form_code (t : ByteArray) (h9 : t.size = 9) (hc : codeB (subT t) = true) : (formS (areaOf (subT t)) (walkOf (subT t)) (pointOf (subT t)) = t) ↔ parseB t = true := by
  obtain ⟨a, b, c, d, e, f, g, x, y, hl⟩ := list9 t.data.toList (by rw [Array.length_toList]; exact h9)
  have hs := subT_list t a b c d e f g x y hl
  obtain ⟨hcb, hpb⟩ := code_back (subT t) hc
  rw [formS, if_pos hpb]
  rw [hs] at hcb
  have hf : formL (areaOf (subT t)) (walkOf (subT t)) (pointOf (subT t)) = [a, b, c, 45, e, f, 45, x, y] := by
    unfold codeL at hcb
    have e1 : padL 3 (areaOf (subT t)) = [a, b, c] := by
      have := congrArg (List.take 3) hcb
      simpa [List.take_append, padL_length] using this
    have e2 : padL 2 (walkOf (subT t)) = [e, f] := by
      have := congrArg (fun l => (List.drop 3 l).take 2) hcb
      simpa [List.take_append, List.drop_append, padL_length, e1] using this
    have e3 : padL 2 (pointOf (subT t)) = [x, y] := by
      have := congrArg (fun l => List.drop 5 l) hcb
      simpa [List.take_append, List.drop_append, padL_length, e1, e2] using this
    unfold formL
    rw [e1, e2, e3]; rfl
  rw [hf]
  have hb : (bs [a, b, c, 45, e, f, 45, x, y] = t) ↔ [a, b, c, 45, e, f, 45, x, y] = t.data.toList := by
    constructor
    · intro h; rw [← h, bs_list]
    · intro h; rw [h, bs_of]
  rw [hb, hl]
  simp [parseB, h9, hc, hl]
  constructor
  · rintro ⟨rfl, rfl⟩; exact ⟨rfl, rfl⟩
  · rintro ⟨rfl, rfl⟩; exact ⟨rfl, rfl⟩
theorem form_zero (t : ByteArray) (hc : codeB (subT t) = false) : ¬ formS 0 0 0 = t := by
  intro h
  have hl : t.data.toList = [48, 48, 48, 45, 48, 48, 45, 48, 48] := by rw [← h]; decide
  have hs := subT_list t _ _ _ _ _ _ _ _ _ hl
  have : codeB (subT t) = true := by
    simp only [codeB, Lib.size_eq, hs]; decide
  rw [this] at hc; cases hc
theorem str_ne (a b : ByteArray) (h : ¬ a = b) : (a.toList != b.toList) = true := by
  simp only [bne_iff_ne, ByteArray.toList_eq]
  intro e; exact h (by rw [← bs_of a, ← bs_of b, e])
theorem str_same (a : ByteArray) : (a.toList != a.toList) = false := by simp

def Res3 (w x : World) : Prop := x.cell? ⟨w.heap.size, 0, none⟩ = some (.int .i64 0) ∧ x.cell? ⟨w.heap.size, 1, none⟩ = some (.int .i64 0) ∧ x.cell? ⟨w.heap.size, 2, none⟩ = some (.int .i64 0) ∧ Below w.heap.size w x ∧ x.frozen? ⟨w.heap.size, 0, none⟩ = false ∧ x.frozen? ⟨w.heap.size, 1, none⟩ = false ∧ x.frozen? ⟨w.heap.size, 2, none⟩ = false
theorem Res3.made (w : World) (t : TypeId) : Res3 w (w.alloc (.cells #[.int .i64 0, .int .i64 0, .int .i64 0] t)) := by
  have h := Row.made w t #[.int .i64 0, .int .i64 0, .int .i64 0]
  exact ⟨h.cell 0, h.cell 1, h.cell 2, below_box _ _, h.frozen 0, h.frozen 1, h.frozen 2⟩
theorem Res3.drew {w x : World} (h : Res3 w x) : Res3 w x.drew := ⟨h.1, h.2.1, h.2.2.1, h.2.2.2.1.drew, h.2.2.2.2⟩
theorem frozen_later {w wx : World} {b o : Nat} {v : Value} (hb : Below w.heap.size w wx) (h : w.cell? ⟨b, o, none⟩ = some v) (hf : w.frozen? ⟨b, o, none⟩ = false) : wx.frozen? ⟨b, o, none⟩ = false :=
  (hb.frozen (World.block_lt_of_cell? _ _ h)).trans hf
theorem Res3.ext {w x y : World} (h : Res3 w x) (hb : Below x.heap.size x y) : Res3 w y := by
  obtain ⟨c0, c1, c2, hb0, f0, f1, f2⟩ := h
  exact ⟨cell_later hb c0, cell_later hb c1, cell_later hb c2, ext_trans hb0 hb, frozen_later hb c0 f0, frozen_later hb c1 f1, frozen_later hb c2 f2⟩

set_option maxHeartbeats 1000000 in
theorem impl_ParsePlace (t : ByteArray) (w : World) (_ : t.size ≤ maxLen) :
    Calls Try.prog 9 #[.string t] w fun e w' => e = .returned (parseV t) ∧ Below w.heap.size w w' := by
  by_cases h9 : t.size = 9
  · have i3 : (3 : Int) ≤ (t.size : Int) := by omega
    have i6 : (6 : Int) ≤ (t.size : Int) := by omega
    have i7 : (7 : Int) ≤ (t.size : Int) := by omega
    have j3 : (3 : Int) < (t.size : Int) := by omega
    have j6 : (6 : Int) < (t.size : Int) := by omega
    have b3 : 3 < t.size := by omega
    have b6 : 6 < t.size := by omega
    have n9 : ((t.size : Int) != 9) = false := by simp; omega
    have g3 : t.data.toList[3]? = some t[3] := by rw [List.getElem?_eq_getElem (by rw [Array.length_toList]; exact b3)]; rfl
    have g6 : t.data.toList[6]? = some t[6] := by rw [List.getElem?_eq_getElem (by rw [Array.length_toList]; exact b6)]; rfl
    have hsub : (subT t).size ≤ maxLen := by rw [subT_size t h9]; unfold maxLen; omega
    have hno1 : ¬ 9223372036854775807 < min 3 t.size + (min 6 t.size - 4) := by omega
    have hno2 : ¬ 9223372036854775807 < min 3 t.size + (min 6 t.size - 4) + (t.size - 7) := by omega
    by_cases hd : t[3] = 45 ∧ t[6] = 45
    · obtain ⟨d3, d6⟩ := hd
      have m3 : ((t[3].toNat : Int) != 45) = false := by rw [d3]; rfl
      have m6 : ((t[6].toNat : Int) != 45) = false := by rw [d6]; rfl
      have H := Lib.hid (show parseV t = placeV (subT t) from by
        simp only [parseV, placeV, parseB, h9, g3, g6, d3, d6]; simp)
      obtain ⟨a, b, c, ok, hcv⟩ : ∃ (a b c : Int) (ok : Bool), placeV (subT t) = .tuple #[vPlace a b c, .bool ok] := by
        unfold placeV; split
        · exact ⟨_, _, _, _, rfl⟩
        · exact ⟨_, _, _, _, rfl⟩
      have HV := Lib.hid hcv
      clear hcv d3 d6 g3 g6 h9
      go_enter Try.func9, Try.ntmps9
      go_wp2_with fail
      go_region_held3 (fun _ => True) (trivial)
        (first | (go_at_call 24; (refine (impl_PlaceOf (subT t) _ hsub).mono ?_); rintro e w2 ⟨rfl, hb2⟩; rw [HV.out]; obtain ⟨hc0, hc1, hc2, hbw, hf0, hf1, hf2⟩ := (Res3.made w 23).drew.ext hb2))
      go_wp2
      refine bodyPost_ret (v := .tuple #[vPlace a b c, .bool ok]) (by simp [results, Try.results9, go_sem, hc0, hc1, hc2]) rfl ⟨ret_val (by rw [H.out, HV.out]), (by repeat (first | exact Below.refl _ _ | assumption | refine ext_alloc ?_ _ | refine Below.drew ?_ | refine below_drewN' ?_ _ | refine ext_set ?_ (by first | (simp; done) | (simp; omega) | omega) _ | refine ext_trans ?_ (by assumption)))⟩
    · have H := Lib.hid (show parseV t = .tuple #[vPlace 0 0 0, .bool false] from by
        simp only [parseV, parseB, g3, g6]; rw [if_neg]; simp; intro _ _ h3 h6; exact hd ⟨h3, h6⟩)
      have hu : ∀ c : UInt8, ¬ c = 45 → ((c.toNat : Int) != 45) = true := fun c hc => by
        simp only [bne_iff_ne]; intro he; apply hc; apply UInt8.toNat_inj.1; show c.toNat = 45; omega
      by_cases d3 : t[3] = 45
      · have m3 : ((t[3].toNat : Int) != 45) = false := by rw [d3]; rfl
        have m6 : ((t[6].toNat : Int) != 45) = true := hu _ fun h => hd ⟨d3, h⟩
        clear d3 g3 g6 h9 hd hu
        go_enter Try.func9, Try.ntmps9
        go_wp2_with fail
        refine bodyPost_ret (v := .tuple #[vPlace 0 0 0, .bool false]) (by simp [results, Try.results9, go_sem]) rfl ⟨ret_val H.out.symm, (by repeat (first | exact Below.refl _ _ | assumption | refine ext_alloc ?_ _ | refine Below.drew ?_ | refine below_drewN' ?_ _ | refine ext_set ?_ (by first | (simp; done) | (simp; omega) | omega) _ | refine ext_trans ?_ (by assumption)))⟩
      · have m3 : ((t[3].toNat : Int) != 45) = true := hu _ d3
        clear d3 g3 g6 h9 hd hu
        go_enter Try.func9, Try.ntmps9
        go_wp2_with fail
        refine bodyPost_ret (v := .tuple #[vPlace 0 0 0, .bool false]) (by simp [results, Try.results9, go_sem]) rfl ⟨ret_val H.out.symm, (by repeat (first | exact Below.refl _ _ | assumption | refine ext_alloc ?_ _ | refine Below.drew ?_ | refine below_drewN' ?_ _ | refine ext_set ?_ (by first | (simp; done) | (simp; omega) | omega) _ | refine ext_trans ?_ (by assumption)))⟩
  · have H := Lib.hid (show parseV t = .tuple #[vPlace 0 0 0, .bool false] from by
      simp [parseV, parseB, h9])
    have n9 : ((t.size : Int) != 9) = true := by simp; omega
    clear h9
    go_enter Try.func9, Try.ntmps9
    go_wp2_with fail
    refine bodyPost_ret (v := .tuple #[vPlace 0 0 0, .bool false]) (by simp [results, Try.results9, go_sem]) rfl ⟨ret_val H.out.symm, (by repeat (first | exact Below.refl _ _ | assumption | refine ext_alloc ?_ _ | refine Below.drew ?_ | refine below_drewN' ?_ _ | refine ext_set ?_ (by first | (simp; done) | (simp; omega) | omega) _ | refine ext_trans ?_ (by assumption)))⟩

theorem Res3.alloc {w x : World} (h : Res3 w x) (o : Obj) : Res3 w (x.alloc o) := h.ext (below_box x o)
theorem Res3.set {w x : World} (h : Res3 w x) {p : Addr} (hp : w.heap.size < p.block) (u : Value) : Res3 w (x.setCell p u) := by
  obtain ⟨c0, c1, c2, hb0, f0, f1, f2⟩ := h
  have hk : (x.setCell p u).heap[w.heap.size]? = x.heap[w.heap.size]? := Below.heap_setCell x p u _ (by omega)
  have hc : ∀ o, (x.setCell p u).cell? ⟨w.heap.size, o, none⟩ = x.cell? ⟨w.heap.size, o, none⟩ := fun o => World.cell?_of_block (w := x) hk
  have hf : ∀ o, (x.setCell p u).frozen? ⟨w.heap.size, o, none⟩ = x.frozen? ⟨w.heap.size, o, none⟩ := fun o => World.frozen?_of_block (w := x) hk
  exact ⟨(hc 0).trans c0, (hc 1).trans c1, (hc 2).trans c2, ext_set hb0 (by omega) u, (hf 0).trans f0, (hf 1).trans f1, (hf 2).trans f2⟩

/-- What the reference finds: a place whose text is the text, or another. -/
theorem parse_ways (t : ByteArray) (h9 : t.size = 9) : ∃ (a b c : Int) (ok : Bool), placeV (subT t) = .tuple #[vPlace a b c, .bool ok] ∧
    ((formS a b c = t ∧ parseV t = .tuple #[vPlace a b c, .bool true]) ∨ (¬ formS a b c = t ∧ parseV t = .tuple #[vPlace 0 0 0, .bool false])) := by
  cases hc : codeB (subT t) with
  | true =>
    refine ⟨_, _, _, _, by simp only [placeV, hc]; rfl, ?_⟩
    have hf := form_code t h9 hc
    cases hp : parseB t with
    | true => exact .inl ⟨hf.2 hp, by simp [parseV, hp]⟩
    | false => exact .inr ⟨fun h => (by rw [hf.1 h] at hp; cases hp), by simp [parseV, hp]⟩
  | false =>
    refine ⟨0, 0, 0, false, by simp [placeV, hc], .inr ⟨form_zero t hc, ?_⟩⟩
    simp [parseV, parseB, hc]

set_option maxHeartbeats 2000000 in
theorem spec_ParsePlace (t : ByteArray) (w : World) (_ : t.size ≤ maxLen) :
    Calls Try.prog 8 #[.string t] w fun e w' => e = .returned (parseV t) ∧ Below w.heap.size w w' := by
  by_cases h9 : t.size = 9
  · have i3 : (3 : Int) ≤ (t.size : Int) := by omega
    have i6 : (6 : Int) ≤ (t.size : Int) := by omega
    have i7 : (7 : Int) ≤ (t.size : Int) := by omega
    have n9 : ((t.size : Int) != 9) = false := by simp; omega
    have hsub : (subT t).size ≤ maxLen := by rw [subT_size t h9]; unfold maxLen; omega
    have hno1 : ¬ 9223372036854775807 < min 3 t.size + (min 6 t.size - 4) := by omega
    have hno2 : ¬ 9223372036854775807 < min 3 t.size + (min 6 t.size - 4) + (t.size - 7) := by omega
    obtain ⟨a, b, c, ok, hcv, hw⟩ := parse_ways t h9
    have HV := Lib.hid hcv
    clear hcv h9
    rcases hw with ⟨hf, hp⟩ | ⟨hf, hp⟩
    · have HF := Lib.hid hf
      have H := Lib.hid hp
      clear hf hp
      go_enter Try.func8, Try.ntmps8
      go_wp2_with fail
      go_region_held3 (fun _ => True) (trivial)
        (first | (go_at_call 28; (refine (spec_PlaceOf (subT t) _ hsub).mono ?_); rintro e w2 ⟨rfl, hb2⟩; rw [HV.out]; have hc2 := bcell hb2; have hz2 := hb2.size; simp at hz2; have hy2 : w.heap.size < w2.heap.size := (by omega)))
      · go_wp2_with fail
        refine (spec_FormatPlace _ _ _ _).mono ?_
        rintro e w3 ⟨rfl, hb3⟩
        rw [HF.out]
        have hz3 := hb3.size
        simp at hz3
        have hy3 : w.heap.size < w3.heap.size := by omega
        have hx3 : w.heap.size + 1 < w3.heap.size := by omega
        obtain ⟨rc0, rc1, rc2, _, rf0, rf1, rf2⟩ : Res3 w w3 := ((((Res3.made w _).drew).ext hb2).alloc _).ext hb3
        obtain ⟨xc0, xc1, xc2, _⟩ := (Box3.made w2 a b c 23).ext hb3
        clear hc2
        go_wp2_with fail
        refine bodyPost_ret (v := .tuple #[vPlace a b c, .bool true]) (by simp [results, Try.results8, go_sem, rc0, rc1, rc2]) rfl ⟨ret_val H.out.symm, (by repeat (first | exact Below.refl _ _ | assumption | refine ext_alloc ?_ _ | refine Below.drew ?_ | refine below_drewN' ?_ _ | refine ext_set ?_ (by first | (simp; done) | (simp; omega) | omega) _ | refine ext_trans ?_ (by assumption)))⟩
      · go_wp2_with fail
        refine (spec_FormatPlace _ _ _ _).mono ?_
        rintro e w3 ⟨rfl, hb3⟩
        rw [HF.out]
        have hz3 := hb3.size
        simp at hz3
        have hy3 : w.heap.size < w3.heap.size := by omega
        have hx3 : w.heap.size + 1 < w3.heap.size := by omega
        obtain ⟨rc0, rc1, rc2, _, rf0, rf1, rf2⟩ : Res3 w w3 := (((((((Res3.made w _).alloc _).drew).ext hb2).set (by simp) _).set (by simp) _).set (by simp) _).ext hb3
        have xc0 : w3.cell? ⟨w.heap.size + 1, 0, none⟩ = some (.int .i64 a) := cell_later hb3 (by go_simp)
        have xc1 : w3.cell? ⟨w.heap.size + 1, 1, none⟩ = some (.int .i64 b) := cell_later hb3 (by go_simp)
        have xc2 : w3.cell? ⟨w.heap.size + 1, 2, none⟩ = some (.int .i64 c) := cell_later hb3 (by go_simp)
        clear hc2
        go_wp2_with fail
        refine bodyPost_ret (v := .tuple #[vPlace a b c, .bool true]) (by simp [results, Try.results8, go_sem, rc0, rc1, rc2]) rfl ⟨ret_val H.out.symm, (by repeat (first | exact Below.refl _ _ | assumption | refine ext_alloc ?_ _ | refine Below.drew ?_ | refine below_drewN' ?_ _ | refine ext_set ?_ (by first | (simp; done) | (simp; omega) | omega) _ | refine ext_trans ?_ (by assumption)))⟩
    · have hne : ((formS a b c).toList == t.toList) = false := by have := str_ne _ _ hf; simpa [bne] using this
      have H := Lib.hid hp
      clear hf hp
      go_enter Try.func8, Try.ntmps8
      go_wp2_with fail
      go_region_held3 (fun _ => True) (trivial)
        (first | (go_at_call 28; (refine (spec_PlaceOf (subT t) _ hsub).mono ?_); rintro e w2 ⟨rfl, hb2⟩; rw [HV.out]; have hc2 := bcell hb2; have hz2 := hb2.size; simp at hz2; have hy2 : w.heap.size < w2.heap.size := (by omega)))
      · go_wp2_with fail
        refine (spec_FormatPlace _ _ _ _).mono ?_
        rintro e w3 ⟨rfl, hb3⟩
        have hz3 := hb3.size
        simp at hz3
        have hy3 : w.heap.size < w3.heap.size := by omega
        have hx3 : w.heap.size + 1 < w3.heap.size := by omega
        obtain ⟨rc0, rc1, rc2, _, rf0, rf1, rf2⟩ : Res3 w w3 := ((((Res3.made w _).drew).ext hb2).alloc _).ext hb3
        clear hc2
        go_wp2_with fail
        refine bodyPost_ret (v := .tuple #[vPlace 0 0 0, .bool false]) (by simp [results, Try.results8, go_sem, rc0, rc1, rc2]) rfl ⟨ret_val H.out.symm, (by repeat (first | exact Below.refl _ _ | assumption | refine ext_alloc ?_ _ | refine Below.drew ?_ | refine below_drewN' ?_ _ | refine ext_set ?_ (by first | (simp; done) | (simp; omega) | omega) _ | refine ext_trans ?_ (by assumption)))⟩
      · go_wp2_with fail
        refine (spec_FormatPlace _ _ _ _).mono ?_
        rintro e w3 ⟨rfl, hb3⟩
        have hz3 := hb3.size
        simp at hz3
        have hy3 : w.heap.size < w3.heap.size := by omega
        have hx3 : w.heap.size + 1 < w3.heap.size := by omega
        obtain ⟨rc0, rc1, rc2, _, rf0, rf1, rf2⟩ : Res3 w w3 := (((((((Res3.made w _).alloc _).drew).ext hb2).set (by simp) _).set (by simp) _).set (by simp) _).ext hb3
        clear hc2
        go_wp2_with fail
        refine bodyPost_ret (v := .tuple #[vPlace 0 0 0, .bool false]) (by simp [results, Try.results8, go_sem, rc0, rc1, rc2]) rfl ⟨ret_val H.out.symm, (by repeat (first | exact Below.refl _ _ | assumption | refine ext_alloc ?_ _ | refine Below.drew ?_ | refine below_drewN' ?_ _ | refine ext_set ?_ (by first | (simp; done) | (simp; omega) | omega) _ | refine ext_trans ?_ (by assumption)))⟩
  · have H := Lib.hid (show parseV t = .tuple #[vPlace 0 0 0, .bool false] from by
      simp [parseV, parseB, h9])
    have n9 : ((t.size : Int) != 9) = true := by simp; omega
    clear h9
    go_enter Try.func8, Try.ntmps8
    go_wp2_with fail
    refine bodyPost_ret (v := .tuple #[vPlace 0 0 0, .bool false]) (by simp [results, Try.results8, go_sem]) rfl ⟨ret_val H.out.symm, (by repeat (first | exact Below.refl _ _ | assumption | refine ext_alloc ?_ _ | refine Below.drew ?_ | refine below_drewN' ?_ _ | refine ext_set ?_ (by first | (simp; done) | (simp; omega) | omega) _ | refine ext_trans ?_ (by assumption)))⟩

theorem eqPlace_same2 (a b c : Int) (w : World) :
    Calls Try.prog 10 #[vPlace a b c, vPlace a b c] w fun e w' => e = .returned (.bool true) ∧ Below w.heap.size w w' :=
  (eqPlace_any a b c a b c w).mono fun e w' ⟨he, hb⟩ => ⟨by rw [he]; simp, hb⟩

theorem parseV_form (t : ByteArray) : ∃ (a b c : Int) (ok : Bool), parseV t = .tuple #[vPlace a b c, .bool ok] := by
  unfold parseV; split
  · exact ⟨_, _, _, _, rfl⟩
  · exact ⟨_, _, _, _, rfl⟩

set_option maxHeartbeats 1000000 in
theorem law_FnExactParsePlace (s : ByteArray) (w : World) (hs : s.size ≤ maxLen) :
    Calls Try.prog 3 #[.string s] w fun e w' => e = .returned (.bool true) ∧ Below w.heap.size w w' := by
  by_cases hb : s.size ≤ 1048576
  · obtain ⟨a, b, c, ok, hcv⟩ := parseV_form s
    have HV := Lib.hid hcv
    clear hcv
    go_enter Try.func3, Try.ntmps3
    go_wp2_with fail
    refine (spec_ParsePlace _ _ hs).mono ?_
    rintro e w1 ⟨rfl, hb1⟩
    rw [HV.out]
    go_wp2_with fail
    refine (impl_ParsePlace _ _ hs).mono ?_
    rintro e w2 ⟨rfl, hb2⟩
    rw [HV.out]
    have hbx := (Box3.made w1 a b c 23).ext hb2
    have hbx1 := hbx.1
    have hbx2 := hbx.2.1
    have hbx3 := hbx.2.2.1
    have hz : w1.heap.size < w2.heap.size := by have := hb2.size; simp at this; omega
    clear hbx
    go_wp2_with (go_at_call 10; refine (eqPlace_same2 _ _ _ _).mono ?_; rintro e w3 ⟨rfl, hb3⟩)
    go_ret
    exact ⟨rfl, (by repeat (first | exact Below.refl _ _ | assumption | refine ext_alloc ?_ _ | refine Below.drew ?_ | refine below_drewN' ?_ _ | refine ext_set ?_ (by first | (simp; done) | (simp; omega) | omega) _ | refine ext_trans ?_ (by assumption)))⟩
  · go_enter Try.func3, Try.ntmps3
    go_wp2_with fail
    go_ret
    exact ⟨rfl, (by repeat (first | exact Below.refl _ _ | assumption | refine ext_alloc ?_ _ | refine Below.drew ?_ | refine below_drewN' ?_ _ | refine ext_set ?_ (by first | (simp; done) | (simp; omega) | omega) _ | refine ext_trans ?_ (by assumption)))⟩

end Go.Proofs.Ytcopkapcgabkmaa
