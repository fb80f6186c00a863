/-
  WALKS: DrawCollectBins. By an AI agent.
-/
import Derived.Test.YtafngfmloiikoaaDrawM
import Derived.Test.YtafngfmloiikoaaBin2
namespace Go.Proofs.Ytafngfmloiikoaa
open Go.RowKit

/-- A row of slices of letters, each of the call's own; they may share memory. -/
structure SomeSS (w : World) (B : Nat) (v : Value) (vs : List Value) (bss : List (List Ltr)) : Prop where
  row : w.ownsRow B 23 1 v bss.length vs
  each : ∀ (i : Nat) (u : Value) (b : List Ltr), vs[i]? = some u → bss[i]? = some b → Own w B u b
theorem row_got {x y : World} {B r n : Nat} {e : TypeId} {s : Nat} {v : Value} {vs : List Value} (h : x.ownsRow B e s v n vs) (hg : x.grownBy y (some r)) (hr : r < B) : y.ownsRow B e s v n vs :=
  h.kept hg (by cases hv : v.ownBlock with
    | none => exact .inl rfl
    | some g => exact .inr (fun e => by injection e with e; have := (h.lt g hv).1; omega))
theorem SomeSS.got {x y : World} {B r : Nat} {v : Value} {vs : List Value} {bss : List (List Ltr)} (h : SomeSS x B v vs bss) (hg : x.grownBy y (some r)) (hr : r < B) : SomeSS y B v vs bss :=
  ⟨row_got h.row hg hr, fun i u b h1 h2 => (h.each i u b h1 h2).got hg hr⟩
theorem OwnSS.got {x y : World} {B r : Nat} {v : Value} {vs : List Value} {bss : List (List Ltr)} (h : OwnSS x B v vs bss) (hg : x.grownBy y (some r)) (hr : r < B) : OwnSS y B v vs bss :=
  ⟨row_got h.row hg hr, fun i u b h1 h2 => (h.each i u b h1 h2).got hg hr, h.apart, h.out⟩
theorem SomeSS.read {w : World} {B : Nat} {v : Value} {vs : List Value} {bss : List (List Ltr)} (h : SomeSS w B v vs bss) : ∃ A cap, v = .slice A bss.length cap ∧ LSS w A bss.length cap bss := by
  have hrow := h.row
  have hvl : vs.length = bss.length := by have := h.row.1; omega
  have hc : ∀ g, v.ownBlock = some g → ∀ j u, vs[j]? = some u → w.cell? ((⟨g, 0, none⟩ : Addr).add j) = some u := fun g hg => hrow.cells hg
  rcases hrow.2 with ⟨hv, hn⟩ | ⟨g, cap, cur, hv, hb, hg, hnc, hcm, _⟩
  · exact ⟨none, 0, by rw [hn]; exact hv, ⟨rfl, by omega, by unfold maxLen; omega, fun h => by omega⟩⟩
  · refine ⟨_, cap, hv, ⟨rfl, hnc, hcm, fun _ => ⟨g, 0, rfl, fun i b hi => ?_⟩⟩⟩
    obtain ⟨hlt, _⟩ := List.getElem?_eq_some_iff.1 hi
    have h1 : vs[i]? = some (vs[i]'(by rw [hvl]; exact hlt)) := List.getElem?_eq_getElem _
    have h3 := h.each i _ b h1 hi
    have h0 := hc g (by rw [hv]; rfl) i _ h1
    rw [add_lit'] at h0
    obtain ⟨A', c', he, hl⟩ := h3.read
    rw [he] at h0 h3
    rw [Nat.zero_add]
    exact ⟨A', _, c', h0, hl, h3.nilcap⟩
theorem SomeSS.lss {w : World} {B : Nat} {A : Option Addr} {n cap : Nat} {vs : List Value} {bss : List (List Ltr)} (h : SomeSS w B (.slice A n cap) vs bss) : LSS w A n cap bss := by
  obtain ⟨A', c', he, hl⟩ := h.read
  simp at he
  obtain ⟨rfl, rfl, rfl⟩ := he
  exact hl
/-- One of the slices is appended to the row once more. -/
theorem SomeSS.app {w w' : World} {B : Nat} {v v' u : Value} {vs : List Value} {bss : List (List Ltr)} {b : List Ltr} {k : Nat} (h : OwnSS w B v vs bss) (hu : vs[k]? = some u) (hb : bss[k]? = some b)
    (ho : w'.ownsRow B 23 1 v' (bss.length + 1) (vs ++ [u])) (hg : w.grownBy w' v.ownBlock) : SomeSS w' B v' (vs ++ [u]) (bss ++ [b]) := by
  have hvl := h.vlen
  refine ⟨by rw [List.length_append]; exact ho, fun i x c hx hc => ?_⟩
  by_cases e : i < vs.length
  · rw [List.getElem?_append_left e] at hx
    rw [List.getElem?_append_left (by omega)] at hc
    exact (h.each i x c hx hc).kept hg (h.out i x hx)
  · have hlt := (List.getElem?_eq_some_iff.1 hx).1
    simp at hlt
    rw [List.getElem?_append_right (by omega)] at hx hc
    rw [show i - vs.length = 0 by omega] at hx
    rw [show i - bss.length = 0 by omega] at hc
    simp at hx hc
    subst hx hc
    exact (h.each k u b hu hb).kept hg (h.out k u hu)
theorem Src.put {w x y : World} {r P : Nat} {o : Option Nat} (h : Src w x r P) (hg : x.grownBy y o) (ho : ∀ g, o = some g → r + 1 ≤ g) : Src w y r P :=
  ⟨h.1.keep ((Below.refl (r + 1) x).grown hg h.1.lt ho), h.2.1, h.2.2.grown hg h.2.2.size (fun k hk => by have := ho k hk; have := h.2.1; omega)⟩
theorem make_rows' (n : Nat) (hn : n ≤ 1048576) (w : World) : ∃ cs : Array Value, cs.toList = List.replicate n (.slice none 0 0) ∧
    (Instr.makeSlice 26 (.int .i64 (n : Int)) (.int .i64 (n : Int))).run Try.prog w = .ok (.slice (some ⟨w.heap.size, 0, none⟩) n n) (w.alloc (.cells cs 23)) := by
  obtain ⟨i0, hi, hz0, hz1, hz2⟩ := info_parts info_letters
  refine ⟨_, ?_, run_make_rowN' 26 23 i0 _ Try.underlying26 hi hz0 .i64 .i64 n n (Nat.le_refl _) (by rw [hz2]; omega) (by omega) w⟩
  rw [hz1, Nat.mul_one]; exact toList_madeCells_one _ _
theorem flat_nil (n : Nat) : (List.replicate n ([] : List Ltr)).flatten.length = 0 := by
  induction n with
  | zero => rfl
  | succ n ih => simp
theorem flat_mul : ∀ (bss : List (List Ltr)), (∀ b ∈ bss, b.length ≤ 60) → bss.flatten.length ≤ bss.length * 60
  | [], _ => by simp
  | b :: bs, h => by
    have h1 := flat_mul bs (fun c hc => h c (List.mem_cons_of_mem _ hc))
    have h2 := h b List.mem_cons_self
    rw [List.flatten_cons, List.length_append, List.length_cons]; omega
/-- What DrawCollectBins answers. -/
def DrawnSS (w : World) (e : Ending) (w' : World) : Prop :=
  ∃ A n c bss, e = .returned (.slice A n c) ∧ LSS w' A n c bss ∧ n ≤ 61 ∧ bss.flatten.length ≤ 1000 ∧ Below w.heap.size w w'

set_option maxHeartbeats 4000000 in
theorem DrawCollectBins_any (a : Option Addr) (len cap : Nat) (w : World) (h : BytesIn w a len cap) :
    Calls Try.prog 25 #[.slice a len cap] w (DrawnSS w) := by
  have HC := Lib.hid h
  clear h
  obtain ⟨i0, hi, hz0, hz1, hz2⟩ := info_parts info_letters
  go_enter Try.func25, Try.ntmps25
  go_wp2_with fail; refine (l9Open_any _ _ _ _ HC.out).mono ?_; rintro e w1 ⟨r, rfl, hr, hle, hb⟩; have HS := Lib.hid (Src.mk1 hr hle hb); clear hr hb
  go_wp2_with fail
  refine (DrawBinPass_any _ _ _ _ (HC.out.ext HS.out.2.2)).mono ?_
  rintro e w2 ⟨v1, ls, _, rfl, ho1, hl1, ⟨di, rfl⟩, hb2⟩
  obtain ⟨A1, c1, rfl, hls1⟩ := ho1.read
  have HL1 := Lib.hid hls1
  replace HS := Lib.hid (HS.out.ext hb2)
  clear ho1 hls1 hb2
  go_wp2_with fail
  refine (spec_BinPass _ _ _ _ _ _ HL1.out).mono ?_
  rintro e w3 ⟨v, vs, rfl, ho, hb3⟩
  have hr2 : r + 1 ≤ w2.heap.size := HS.out.1.lt
  replace ho := ho.mono hr2
  replace HS := Lib.hid (HS.out.ext hb3)
  obtain ⟨hsm1, hsm2⟩ := binsR_small ls di
  obtain ⟨bss, hbs⟩ : ∃ bss, binsR ls di = bss := ⟨_, rfl⟩
  rw [hbs] at ho hsm1 hsm2
  clear hbs hb3 HL1
  obtain ⟨A, c, rfl, _, _⟩ := ho.read
  obtain ⟨n, hn⟩ : ∃ n, bss.length = n := ⟨_, rfl⟩
  rw [hn] at ho hsm1 ⊢
  have HN := Lib.hid hn
  have HO := Lib.hid ho
  have HSM := Lib.hid hsm2
  have HFL := Lib.hid (show bss.flatten.length ≤ 1000 from by have := flat_mul bss hsm2; omega)
  clear ho hsm2 hn
  by_cases h0 : n = 0
  · subst h0
    have HA := Lib.hid (show SomeSS w3 (r + 1) _ vs bss from ⟨HO.out.row, HO.out.each⟩)
    clear HO
    go_wp2_with fail
    refine (pick_lit r _ 16 _ HS.out.1 (by omega) (by omega)).mono ?_
    rintro e w7 ⟨_, rfl, ⟨q7, rfl, hq7⟩, hr, hg⟩
    replace HA := Lib.hid (HA.out.got hg (by omega))
    replace HS := Lib.hid (HS.out.got hr hg)
    clear hr hg
    by_cases h7 : q7 = 0
    · subst h7
      clear HA
      go_wp2_with fail
      refine (num_any r _ _ [60, 61] _ (HS.out.1.alloc _) (by omega) (by decide) (Row.made _ _ _) (Nat.ne_of_gt HS.out.1.lt) _).mono ?_
      rintro e w8 ⟨_, rfl, ⟨x, hx, rfl⟩, hr, hg⟩
      replace HS := Lib.hid ((HS.out.alloc _).got hr hg)
      clear hr hg
      obtain ⟨y, rfl, hy⟩ : ∃ y : Nat, x = (y : Int) ∧ y ≤ 61 := by
        simp at hx
        rcases hx with rfl | rfl
        · exact ⟨60, rfl, by omega⟩
        · exact ⟨61, rfl, by omega⟩
      clear hx
      obtain ⟨cs, hcs, hmk⟩ := make_rows' y (by omega) w8
      have HM := Lib.hid (ownSS_new (w := w8) (Nat.zero_le _) (show y ≤ maxLen by unfold maxLen; omega) cs hcs)
      have HBF := Lib.hid (ext_trans HS.out.2.2 (below_box w8 (.cells cs 23)))
      clear hcs
      go_wp2_with fail
      go_ret
      exact ⟨_, _, _, _, rfl, HM.out.lss.1, hy, by rw [flat_nil]; omega, HBF.out⟩
    · have h7d : ((q7 : Int) == 0) = false := by simp; omega
      go_wp2_with fail
      go_ret
      exact ⟨_, _, _, _, rfl, HA.out.lss, by omega, HFL.out, HS.out.2.2⟩
  · have hn0 : decide ((0 : Int) < (n : Int)) = true := by simp; omega
    have hn1 : decide (0 < n) = true := by simp; omega
    go_wp2_with fail
    refine (pick_lit r _ 8 _ HS.out.1 (by omega) (by omega)).mono ?_
    rintro e w4 ⟨_, rfl, ⟨q, rfl, hq⟩, hr, hg⟩
    replace HO := Lib.hid (HO.out.got hg (by omega))
    replace HS := Lib.hid (HS.out.got hr hg)
    clear hr hg
    by_cases hq0 : q = 0
    · subst hq0
      go_wp2_with fail
      refine (pick_any r n _ _ HS.out.1 (by omega) (by omega)).mono ?_
      rintro e w5 ⟨_, rfl, ⟨k, rfl, hk⟩, hr, hg⟩
      replace HO := Lib.hid (HO.out.got hg (by omega))
      replace HS := Lib.hid (HS.out.got hr hg)
      clear hr hg
      have hr5 := HS.out.1.lt
      obtain ⟨u, b, hu, hbk, hub⟩ := HO.out.get k (by rw [HN.out]; exact hk)
      obtain ⟨g, cc, hform⟩ := HO.out.form (by rw [HN.out]; omega)
      simp at hform
      obtain ⟨rfl, _, rfl⟩ := hform
      have c0 := (HO.out.cell k u hu).1
      obtain ⟨A', c', rfl, _⟩ := hub.read
      have HB60 := HSM.out b (List.mem_of_getElem? hbk)
      have hki : (k : Int) < (n : Int) := by omega
      have HU := Lib.hid hu
      have HBK := Lib.hid hbk
      have HFL2 := Lib.hid (show (bss ++ [b]).flatten.length ≤ 1000 from by
        have := flat_mul bss HSM.out
        have hN := HN.out
        have hf : (bss ++ [b]).flatten.length = bss.flatten.length + b.length := by rw [List.flatten_append, List.length_append]; simp
        omega)
      clear hu hbk hub
      go_wp2_with (at_builtin; refine wpList_append_own_at _ rfl (.tmp 29) (.tmp 37) 26 rfl (r + 1) 23 i0 _ 1 24 Try.underlying26 hi hz0 hz1 hz2 rfl (by decide) _ _ _ (by rw [HN.out]) (by exact (HO.out.row.alloc _)) ⟨w5.heap.size, 0, none⟩ 1 1 [.slice A' b.length c'] rfl rfl (slice_at _ _ _ _ (by simp)) (slice_one _ _ _) (by rw [HN.out]; unfold maxLen; omega) (by rw [HN.out]; omega) (by simp; omega) ?_; intro v' w6 hown' hgrow _ hloc)
      have HA := Lib.hid (SomeSS.app (HO.out.ext (below_box _ _)) HU.out HBK.out hown' hgrow)
      replace HS := Lib.hid ((HS.out.alloc _).put hgrow (fun g hg => (HO.out.row.lt g hg).1))
      obtain ⟨A6, c6, hv6, _⟩ := HA.out.read
      have hn6 : (bss ++ [b]).length = n + 1 := by rw [List.length_append, HN.out]; rfl
      rw [hn6] at hv6
      subst hv6
      clear hn6 hown' hgrow hloc HFL HO
      have HFL := HFL2
      clear HFL2
      go_wp2_with fail
      refine (pick_lit r _ 16 _ HS.out.1 (by omega) (by omega)).mono ?_
      rintro e w7 ⟨_, rfl, ⟨q7, rfl, hq7⟩, hr, hg⟩
      replace HA := Lib.hid (HA.out.got hg (by omega))
      replace HS := Lib.hid (HS.out.got hr hg)
      clear hr hg
      by_cases h7 : q7 = 0
      · subst h7
        clear HA
        go_wp2_with fail
        refine (num_any r _ _ [60, 61] _ (HS.out.1.alloc _) (by omega) (by decide) (Row.made _ _ _) (Nat.ne_of_gt HS.out.1.lt) _).mono ?_
        rintro e w8 ⟨_, rfl, ⟨x, hx, rfl⟩, hr, hg⟩
        replace HS := Lib.hid ((HS.out.alloc _).got hr hg)
        clear hr hg
        obtain ⟨y, rfl, hy⟩ : ∃ y : Nat, x = (y : Int) ∧ y ≤ 61 := by
          simp at hx
          rcases hx with rfl | rfl
          · exact ⟨60, rfl, by omega⟩
          · exact ⟨61, rfl, by omega⟩
        clear hx
        obtain ⟨cs, hcs, hmk⟩ := make_rows' y (by omega) w8
        have HM := Lib.hid (ownSS_new (w := w8) (Nat.zero_le _) (show y ≤ maxLen by unfold maxLen; omega) cs hcs)
        have HBF := Lib.hid (ext_trans HS.out.2.2 (below_box w8 (.cells cs 23)))
        clear hcs
        go_wp2_with fail
        go_ret
        exact ⟨_, _, _, _, rfl, HM.out.lss.1, hy, by rw [flat_nil]; omega, HBF.out⟩
      · have h7d : ((q7 : Int) == 0) = false := by simp; omega
        go_wp2_with fail
        go_ret
        exact ⟨_, _, _, _, rfl, (by have hh := HA.out.lss; rw [← HN.out] at hh; exact hh), (by rw [HN.out]; omega), HFL.out, HS.out.2.2⟩
    · have hq0d : ((q : Int) == 0) = false := by simp; omega
      have HA := Lib.hid (show SomeSS w4 (r + 1) _ vs bss from ⟨HO.out.row, HO.out.each⟩)
      clear HO
      go_wp2_with fail
      refine (pick_lit r _ 16 _ HS.out.1 (by omega) (by omega)).mono ?_
      rintro e w7 ⟨_, rfl, ⟨q7, rfl, hq7⟩, hr, hg⟩
      replace HA := Lib.hid (HA.out.got hg (by omega))
      replace HS := Lib.hid (HS.out.got hr hg)
      clear hr hg
      by_cases h7 : q7 = 0
      · subst h7
        clear HA
        go_wp2_with fail
        refine (num_any r _ _ [60, 61] _ (HS.out.1.alloc _) (by omega) (by decide) (Row.made _ _ _) (Nat.ne_of_gt HS.out.1.lt) _).mono ?_
        rintro e w8 ⟨_, rfl, ⟨x, hx, rfl⟩, hr, hg⟩
        replace HS := Lib.hid ((HS.out.alloc _).got hr hg)
        clear hr hg
        obtain ⟨y, rfl, hy⟩ : ∃ y : Nat, x = (y : Int) ∧ y ≤ 61 := by
          simp at hx
          rcases hx with rfl | rfl
          · exact ⟨60, rfl, by omega⟩
          · exact ⟨61, rfl, by omega⟩
        clear hx
        obtain ⟨cs, hcs, hmk⟩ := make_rows' y (by omega) w8
        have HM := Lib.hid (ownSS_new (w := w8) (Nat.zero_le _) (show y ≤ maxLen by unfold maxLen; omega) cs hcs)
        have HBF := Lib.hid (ext_trans HS.out.2.2 (below_box w8 (.cells cs 23)))
        clear hcs
        go_wp2_with fail
        go_ret
        exact ⟨_, _, _, _, rfl, HM.out.lss.1, hy, by rw [flat_nil]; omega, HBF.out⟩
      · have h7d : ((q7 : Int) == 0) = false := by simp; omega
        go_wp2_with fail
        go_ret
        exact ⟨_, _, _, _, rfl, HA.out.lss, by omega, HFL.out, HS.out.2.2⟩

end Go.Proofs.Ytafngfmloiikoaa
