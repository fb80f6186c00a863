/-
  WALKS: the reference's source of draws (l9Open, pick, num, of). Only totality, bounds and what memory is touched. By an AI agent.
-/
import Derived.Test.YtafngfmloiikoaaBase
import Derived.Test.YtafngfmloiikoaaProg
import Derived.WalkSpells
import Derived.WalkLawsBesides
import Derived.OwnWalk
import Derived.Deep.QuietTactic
import Derived.BigQuiet
import Derived.Laws.BitsAllLaws
import Derived.Laws.BitsLemmas
import Derived.Deep.AppendLies
namespace Go.Proofs.Ytafngfmloiikoaa
open Go.RowKit

/-- A slice of bytes that can be read. -/
def BytesIn (w : World) (a : Option Addr) (len cap : Nat) : Prop :=
  len ≤ cap ∧ cap ≤ maxLen ∧ (0 < len → ∃ g off : Nat, a = some ⟨g, off, none⟩ ∧ ∀ j, j < len → ∃ c : UInt8, w.cell? ⟨g, off + j, none⟩ = some (byteV c))

/-- A source of draws in block r, from which at most P draws were taken. -/
def Rd (w : World) (r P : Nat) : Prop :=
  ∃ (a : Option Addr) (len cap p : Nat), len ≤ 2000 ∧ p ≤ P ∧ Row w r 85 #[.slice a len cap, .int .i64 p] ∧
    (0 < len → ∃ g off : Nat, a = some ⟨g, off, none⟩ ∧ g < r ∧ ∀ j, j < len → ∃ c : UInt8, w.cell? ⟨g, off + j, none⟩ = some (byteV c))
theorem Rd.lt {w : World} {r P : Nat} (h : Rd w r P) : r < w.heap.size := by
  obtain ⟨_, _, _, _, _, _, hr, _⟩ := h; exact hr.lt
theorem Rd.keep {w w' : World} {r P : Nat} (h : Rd w r P) (hb : Below (r + 1) w w') : Rd w' r P := by
  obtain ⟨a, len, cap, p, h1, h2, hr, hc⟩ := h
  refine ⟨a, len, cap, p, h1, h2, (hb.block r (by omega)).trans hr, fun h0 => ?_⟩
  obtain ⟨g, off, ha, hg, hcell⟩ := hc h0
  refine ⟨g, off, ha, hg, fun j hj => ?_⟩
  obtain ⟨c, hcc⟩ := hcell j hj
  exact ⟨c, (hb.cell (p := ⟨g, off + j, none⟩) (by show g < r + 1; omega)).trans hcc⟩
theorem Rd.ext {w w' : World} {r P : Nat} (h : Rd w r P) (hb : Below w.heap.size w w') : Rd w' r P := h.keep (hb.mono h.lt)
theorem Rd.alloc {w : World} {r P : Nat} (h : Rd w r P) (o : Obj) : Rd (w.alloc o) r P := h.ext (below_box w o)
theorem Rd.mono {w : World} {r P P' : Nat} (h : Rd w r P) (hP : P ≤ P') : Rd w r P' := by
  obtain ⟨a, len, cap, p, h1, h2, hr⟩ := h; exact ⟨a, len, cap, p, h1, by omega, hr⟩

theorem grown_trans' {a b c : World} {g : Option Nat} (h : a.grownBy b g) (k : b.grownBy c g) : a.grownBy c g :=
  ⟨k.os.trans h.os, k.tape.trans h.tape, k.output.trans h.output, Nat.le_trans h.size k.size, fun i hi hne => (k.block i (Nat.lt_of_lt_of_le hi h.size) hne).trans (h.block i hi hne)⟩
theorem grown_below {a b : World} (h : Below a.heap.size a b) (g : Option Nat) : a.grownBy b g := ⟨h.os, h.tape, h.output, h.size, fun i hi _ => h.block i hi⟩
theorem grown_ext {a b c : World} {g : Option Nat} (h : a.grownBy b g) (k : Below b.heap.size b c) : a.grownBy c g := grown_trans' h (grown_below k g)
theorem grown_alloc {a b : World} {g : Option Nat} (h : a.grownBy b g) (o : Obj) : a.grownBy (b.alloc o) g := grown_ext h (below_box b o)
theorem grown_drew {a b : World} {g : Option Nat} (h : a.grownBy b g) : a.grownBy b.drew g := ⟨h.os, h.tape, h.output, h.size, h.block⟩
theorem grown_drewN {a b : World} {g : Option Nat} (h : a.grownBy b g) (n : Nat) : a.grownBy (b.drewN n) g := ⟨h.os, h.tape, h.output, h.size, h.block⟩
theorem grown_set {a b : World} {r : Nat} (h : a.grownBy b (some r)) {p : Addr} (hp : p.block = r ∨ a.heap.size ≤ p.block) (u : Value) : a.grownBy (b.setCell p u) (some r) :=
  ⟨h.os, h.tape, h.output, by simpa [World.setCell] using h.size, fun i hi hne => (Below.heap_setCell b p u i (by
    rintro rfl
    rcases hp with hp | hp
    · exact hne (by rw [hp])
    · omega)).trans (h.block i hi hne)⟩
/-- A step that touched the source alone, after one that left old memory alone. -/
theorem below_grown {w a b : World} {r : Nat} (h : Below w.heap.size w a) (hg : a.grownBy b (some r)) (hr : w.heap.size ≤ r) : Below w.heap.size w b :=
  h.grown hg h.size (fun k hk => by injection hk with hk; omega)

/-- A call that took draws: it returned v with V v, the source has at most P draws taken, nothing else that was there has changed. -/
def Got (V : Value → Prop) (r P : Nat) (w : World) (e : Ending) (w' : World) : Prop :=
  ∃ v, e = .returned v ∧ V v ∧ Rd w' r P ∧ w.grownBy w' (some r)
/-- A number below n. -/
def Num (n : Nat) (v : Value) : Prop := ∃ m : Nat, v = .int .i64 m ∧ m < n

theorem ofInt_i64' (a : Nat) (ha : a < 9223372036854775808) : (BitVec.ofInt 64 (a : Int)).toNat = a := by
  rw [BitVec.ofInt_natCast, BitVec.toNat_ofNat]; exact Nat.mod_eq_of_lt (by omega)
theorem i64_xor_nat' (a b : Nat) (ha : a < 9223372036854775808) (hb : b < 9223372036854775808) : bits .xor .i64 (a : Int) (b : Int) = ((a ^^^ b : Nat) : Int) := by
  have hx : a ^^^ b < 2 ^ 63 := Nat.xor_lt_two_pow (by omega) (by omega)
  show IntKind.i64.wrap ((BitVec.ofInt 64 (a : Int) ^^^ BitVec.ofInt 64 (b : Int)).toNat : Int) = _
  rw [BitVec.toNat_xor, ofInt_i64' a ha, ofInt_i64' b hb, IntKind.wrap_i64]
  omega

/-- What a draw answers and does. -/
def Picked (r n p : Nat) (w : World) (e : Ending) (w' : World) : Prop :=
  ∃ m k : Nat, m < n ∧ e = .returned (.int .i64 m) ∧ w' = (w.setCell ⟨r, 1, none⟩ (.int .i64 ((p + 1 : Nat) : Int))).drewN k

set_option maxHeartbeats 1000000 in
theorem pick_none (r n : Nat) (a : Option Addr) (cap p : Nat) (w : World) (hp : p ≤ 1000000) (hn : 1 ≤ n) (hr : Row w r 85 #[.slice a 0 cap, .int .i64 p]) :
    Calls Try.prog 59 #[.pointer (some ⟨r, 0, none⟩), .int .i64 n] w (Picked r n p w) := by
  have c0 : w.cell? ⟨r, 0, none⟩ = some (.slice a 0 cap) := hr.cell 0
  have c1 : w.cell? ⟨r, 1, none⟩ = some (.int .i64 p) := hr.cell 1
  have f1 := hr.frozen 1
  clear hr
  go_enter Try.func59, Try.ntmps59
  go_wp2_with fail
  go_ret
  exact ⟨0, 0, by omega, rfl, rfl⟩

theorem byte_mod (c : UInt8) (n : Nat) : ((c.toNat : Int) % (n : Int)) = ((c.toNat % n : Nat) : Int) := by simp

set_option maxHeartbeats 1000000 in
theorem pick_near (r n g off : Nat) (len cap p : Nat) (c : UInt8) (w : World) (hp : p ≤ 1000000) (hn : 1 ≤ n) (hpl : p < len) (hg : g < r)
    (hr : Row w r 85 #[.slice (some ⟨g, off, none⟩) len cap, .int .i64 p]) (hc : w.cell? ⟨g, off + p, none⟩ = some (byteV c)) :
    Calls Try.prog 59 #[.pointer (some ⟨r, 0, none⟩), .int .i64 n] w (Picked r n p w) := by
  have c0 : w.cell? ⟨r, 0, none⟩ = some (.slice (some ⟨g, off, none⟩) len cap) := hr.cell 0
  have c1 : w.cell? ⟨r, 1, none⟩ = some (.int .i64 p) := hr.cell 1
  have f1 := hr.frozen 1
  have cb : (w.setCell ⟨r, 1, none⟩ (.int .i64 ((p : Int) + 1))).cell? ⟨g, off + p, none⟩ = some (.int .u8 (c.toNat : Int)) :=
    (World.cell?_setCell_other w ⟨r, 1, none⟩ ⟨g, off + p, none⟩ _ (by intro e; injection e with e; omega)).trans hc
  have hlen : ((len : Int) == 0) = false := by simp; omega
  clear hr hc
  have hn0 : (n : Int) ≠ 0 := by omega
  have hcb : (c.toNat : Int) ≤ 255 := by have := c.toNat_lt; omega
  go_enter Try.func59, Try.ntmps59
  go_wp2_with fail
  go_ret
  exact ⟨c.toNat % n, 0, Nat.mod_lt _ (by omega), ret_int (by simp), rfl⟩

theorem w64 (X : Nat) (h : X ≤ 1000000000) : wrap64 (X : Int) = (X : Int) := IntWalk.wrap64_in _ ⟨by omega, by omega⟩
theorem td64 (X : Nat) : (X : Int).tdiv 64 = ((X / 64 : Nat) : Int) := rfl
theorem tmn (X n : Nat) : (X : Int).tmod (n : Int) = ((X % n : Nat) : Int) := rfl
theorem mix_nat (X n : Nat) (h : X ≤ 1000000000) (hn : 1 ≤ n) : ∃ m : Nat, m < n ∧ (bits BinOp.xor IntKind.i64 (wrap64 (X : Int)) (wrap64 ((wrap64 (X : Int)).tdiv 64))).tmod (n : Int) = (m : Int) := by
  refine ⟨(X ^^^ (X / 64)) % n, Nat.mod_lt _ (by omega), ?_⟩
  rw [w64 X h, td64, w64 _ (by omega), i64_xor_nat' X (X / 64) (by omega) (by omega), tmn]

theorem mix_val (c d p len n : Nat) (hc : c ≤ 255) (hd : d ≤ 255) (hp : p ≤ 1000000) (hn : 1 ≤ n) :
    ∃ m : Nat, m < n ∧ (bits BinOp.xor IntKind.i64 (wrap64 ((c : Int) * 131 + (d : Int) * 1117 + (p : Int) * 29 + wrap64 (wrap64 ((p : Int) / (len : Int)) * 53)))
      (wrap64 ((wrap64 ((c : Int) * 131 + (d : Int) * 1117 + (p : Int) * 29 + wrap64 (wrap64 ((p : Int) / (len : Int)) * 53))).tdiv 64))).tmod (n : Int) = (m : Int) := by
  have hq : p / len ≤ p := Nat.div_le_self _ _
  have e : ((c : Int) * 131 + (d : Int) * 1117 + (p : Int) * 29 + wrap64 (wrap64 ((p : Int) / (len : Int)) * 53)) = ((c * 131 + d * 1117 + p * 29 + p / len * 53 : Nat) : Int) := by
    rw [show (p : Int) / (len : Int) = ((p / len : Nat) : Int) from rfl, w64 _ (by omega), show ((p / len : Nat) : Int) * 53 = ((p / len * 53 : Nat) : Int) from rfl, w64 _ (by omega)]
    omega
  rw [e]
  exact mix_nat _ n (by omega) hn

set_option maxHeartbeats 2000000 in
theorem pick_far (r n g off : Nat) (len cap p : Nat) (c d : UInt8) (w : World) (hp : p ≤ 1000000) (hn : 1 ≤ n) (hl : len ≤ 2000) (hl0 : 0 < len) (hpl : len ≤ p) (hg : g < r)
    (hr : Row w r 85 #[.slice (some ⟨g, off, none⟩) len cap, .int .i64 p]) (hc : w.cell? ⟨g, off + p % len, none⟩ = some (byteV c)) (hd : w.cell? ⟨g, off + (p * 7 + 3) % len, none⟩ = some (byteV d)) :
    Calls Try.prog 59 #[.pointer (some ⟨r, 0, none⟩), .int .i64 n] w (Picked r n p w) := by
  have c0 : w.cell? ⟨r, 0, none⟩ = some (.slice (some ⟨g, off, none⟩) len cap) := hr.cell 0
  have c1 : w.cell? ⟨r, 1, none⟩ = some (.int .i64 p) := hr.cell 1
  have f1 := hr.frozen 1
  have cb : (w.setCell ⟨r, 1, none⟩ (.int .i64 ((p : Int) + 1))).cell? ⟨g, off + p % len, none⟩ = some (.int .u8 (c.toNat : Int)) :=
    (World.cell?_setCell_other w ⟨r, 1, none⟩ ⟨g, off + p % len, none⟩ _ (by intro e; injection e with e; omega)).trans hc
  have cd : (w.setCell ⟨r, 1, none⟩ (.int .i64 ((p : Int) + 1))).cell? ⟨g, off + (p * 7 + 3) % len, none⟩ = some (.int .u8 (d.toNat : Int)) :=
    (World.cell?_setCell_other w ⟨r, 1, none⟩ ⟨g, off + (p * 7 + 3) % len, none⟩ _ (by intro e; injection e with e; omega)).trans hd
  have hlen : ((len : Int) == 0) = false := by simp; omega
  have hl1 : (1 : Int) ≤ (len : Int) := by omega
  have hm1 : (p : Int) % (len : Int) < (len : Int) := Int.emod_lt_of_pos _ (by omega)
  have hm2 : ((p : Int) * 7 + 3) % (len : Int) < (len : Int) := Int.emod_lt_of_pos _ (by omega)
  have hm3 : 0 ≤ (p : Int) % (len : Int) := Int.emod_nonneg _ (by omega)
  have hm4 : 0 ≤ ((p : Int) * 7 + 3) % (len : Int) := Int.emod_nonneg _ (by omega)
  clear hr hc hd
  have hn0 : (n : Int) ≠ 0 := by omega
  have hcb : (c.toNat : Int) ≤ 255 := by have := c.toNat_lt; omega
  have hdb : (d.toNat : Int) ≤ 255 := by have := d.toNat_lt; omega
  go_enter Try.func59, Try.ntmps59
  go_wp2_with fail
  go_quiet (fail)
  go_wp2_with fail
  go_ret
  obtain ⟨m, hm, he⟩ := mix_val c.toNat d.toNat p len n (by omega) (by omega) hp hn
  exact ⟨m, nq, hm, ret_int he, rfl⟩

/-- A draw. -/
theorem pick_any (r n P : Nat) (w : World) (h : Rd w r P) (hP : P ≤ 1000000) (hn : 1 ≤ n) :
    Calls Try.prog 59 #[.pointer (some ⟨r, 0, none⟩), .int .i64 n] w (Got (Num n) r (P + 1) w) := by
  have hlt := h.lt
  obtain ⟨a, len, cap, p, h1, h2, hr, hc⟩ := h
  have fin : ∀ e w', Picked r n p w e w' → Got (Num n) r (P + 1) w e w' := by
    rintro e w' ⟨m, k, hm, rfl, rfl⟩
    refine ⟨_, rfl, ⟨m, rfl, hm⟩, ⟨a, len, cap, p + 1, h1, by omega, hr.put 1 _, fun h0 => ?_⟩, grown_drewN (grown_set (World.grownBy.refl w _) (.inl rfl) _) k⟩
    obtain ⟨g, off, ha, hg, hcell⟩ := hc h0
    refine ⟨g, off, ha, hg, fun j hj => ?_⟩
    obtain ⟨c, hcc⟩ := hcell j hj
    exact ⟨c, (World.cell?_setCell_other w ⟨r, 1, none⟩ ⟨g, off + j, none⟩ _ (by intro e; injection e with e; omega)).trans hcc⟩
  by_cases h0 : 0 < len
  · obtain ⟨g, off, rfl, hg, hcell⟩ := hc h0
    by_cases hpl : p < len
    · obtain ⟨c, hcc⟩ := hcell p hpl
      exact (pick_near r n g off len cap p c w (by omega) hn hpl hg hr hcc).mono fin
    · obtain ⟨c, hcc⟩ := hcell (p % len) (Nat.mod_lt _ h0)
      obtain ⟨d, hdd⟩ := hcell ((p * 7 + 3) % len) (Nat.mod_lt _ h0)
      exact (pick_far r n g off len cap p c d w (by omega) hn h1 h0 (by omega) hg hr hcc hdd).mono fin
  · obtain rfl : len = 0 := by omega
    exact (pick_none r n a cap p w (by omega) hn hr).mono fin

/-- A number below n. -/
def Lt (n : Int) (v : Value) : Prop := ∃ m : Nat, v = .int .i64 m ∧ (m : Int) < n
theorem pick_lit (r P : Nat) (n : Int) (w : World) (h : Rd w r P) (hP : P ≤ 1000000) (hn : 1 ≤ n) :
    Calls Try.prog 59 #[.pointer (some ⟨r, 0, none⟩), .int .i64 n] w (Got (Lt n) r (P + 1) w) := by
  obtain ⟨k, rfl⟩ := Int.eq_ofNat_of_zero_le (show 0 ≤ n by omega)
  refine (pick_any r k P w h hP (by omega)).mono ?_
  rintro e w' ⟨v, he, ⟨m, rfl, hm⟩, rest⟩
  exact ⟨_, he, ⟨m, rfl, by omega⟩, rest⟩

set_option maxHeartbeats 1000000 in
theorem num_any (r P g : Nat) (vs : List Int) (w : World) (h : Rd w r P) (hP : P ≤ 1000000) (hn : 1 ≤ vs.length) (hg : Row w g 3 (vs.map (Value.int .i64)).toArray) (hne : g ≠ r) (c : Nat) :
    Calls Try.prog 60 #[.pointer (some ⟨r, 0, none⟩), .slice (some ⟨g, 0, none⟩) vs.length c] w (Got (fun v => ∃ x, x ∈ vs ∧ v = .int .i64 x) r (P + 1) w) := by
  have HR := Lib.hid h
  have HG := Lib.hid hg
  clear h hg
  go_enter Try.func60, Try.ntmps60
  go_wp2_with fail
  refine (pick_any r vs.length P w HR.out hP hn).mono ?_
  rintro e w1 ⟨_, rfl, ⟨m, rfl, hm⟩, hr1, hg1⟩
  have hcell : w1.cell? ⟨g, m, none⟩ = some (.int .i64 (vs.getD m 0)) := by
    refine hg1.cell (a := ⟨g, m, none⟩) ?_ (by intro e; injection e with e; exact hne e)
    rw [HG.out.cell]; simp [hm]
  have HR1 := Lib.hid hr1
  clear hr1
  go_wp2_with fail
  go_ret
  exact ⟨_, rfl, ⟨_, List.getElem_mem _, rfl⟩, HR1.out, hg1⟩

set_option maxHeartbeats 1000000 in
theorem of_any (r P g : Nat) (vs : List ByteArray) (w : World) (h : Rd w r P) (hP : P ≤ 1000000) (hn : 1 ≤ vs.length) (hg : Row w g 9 (vs.map Value.string).toArray) (hne : g ≠ r) (c : Nat) :
    Calls Try.prog 86 #[.pointer (some ⟨r, 0, none⟩), .slice (some ⟨g, 0, none⟩) vs.length c] w (Got (fun v => ∃ x, x ∈ vs ∧ v = .string x) r (P + 1) w) := by
  have HR := Lib.hid h
  have HG := Lib.hid hg
  clear h hg
  go_enter Try.func86, Try.ntmps86
  go_wp2_with fail
  refine (pick_any r vs.length P w HR.out hP hn).mono ?_
  rintro e w1 ⟨_, rfl, ⟨m, rfl, hm⟩, hr1, hg1⟩
  have hcell : w1.cell? ⟨g, m, none⟩ = some (.string (vs.getD m ByteArray.empty)) := by
    refine hg1.cell (a := ⟨g, m, none⟩) ?_ (by intro e; injection e with e; exact hne e)
    rw [HG.out.cell]; simp [hm]
  have HR1 := Lib.hid hr1
  clear hr1
  go_wp2_with fail
  go_ret
  exact ⟨_, rfl, ⟨_, List.getElem_mem _, rfl⟩, HR1.out, hg1⟩

/-- What l9Open leaves: a source with no draws taken, in a new block. -/
def Opened (w : World) (e : Ending) (w' : World) : Prop := ∃ r, e = .returned (.pointer (some ⟨r, 0, none⟩)) ∧ Rd w' r 0 ∧ w.heap.size ≤ r ∧ Below w.heap.size w w'

set_option maxHeartbeats 1000000 in
theorem l9Open_any (a : Option Addr) (len cap : Nat) (w : World) (h : BytesIn w a len cap) :
    Calls Try.prog 57 #[.slice a len cap] w (Opened w) := by
  obtain ⟨h1, h2, h3⟩ := h
  unfold maxLen at h2
  have HC := Lib.hid h3
  clear h3
  by_cases hbig : 2000 < len
  · obtain ⟨g, off, rfl, hcell⟩ := HC.out (by omega)
    have hcap : (2000 : Int) ≤ (cap : Int) := by omega
    have HC := Lib.hid hcell
    clear hcell
    go_enter Try.func57, Try.ntmps57
    go_wp2_with fail
    go_ret
    refine ⟨w.heap.size, rfl, ⟨_, 2000, cap, 0, by omega, by omega, Row.made w _ _, fun _ => ⟨g, off, rfl, ?_, fun j hj => ?_⟩⟩, Nat.le_refl _, below_box _ _⟩
    · obtain ⟨c, hc⟩ := HC.out 0 (by omega)
      exact World.block_lt_of_cell? _ _ hc
    · obtain ⟨c, hc⟩ := HC.out j (by omega)
      exact ⟨c, cell_later (below_box w _) hc⟩
  · go_enter Try.func57, Try.ntmps57
    go_wp2_with fail
    go_ret
    refine ⟨w.heap.size, rfl, ⟨_, len, cap, 0, by omega, by omega, Row.made w _ _, fun h0 => ?_⟩, Nat.le_refl _, below_box _ _⟩
    obtain ⟨g, off, rfl, hcell⟩ := HC.out h0
    refine ⟨g, off, rfl, ?_, fun j hj => ?_⟩
    · obtain ⟨c, hc⟩ := hcell 0 (by omega)
      exact World.block_lt_of_cell? _ _ hc
    · obtain ⟨c, hc⟩ := hcell j (by omega)
      exact ⟨c, cell_later (below_box w _) hc⟩

/-- The source inside a Draw function. -/
def Src (w x : World) (r P : Nat) : Prop := Rd x r P ∧ w.heap.size ≤ r ∧ Below w.heap.size w x
theorem Src.mk1 {w x : World} {r P : Nat} (h : Rd x r P) (hle : w.heap.size ≤ r) (hb : Below w.heap.size w x) : Src w x r P := ⟨h, hle, hb⟩
theorem Src.got {w x y : World} {r P P' : Nat} (h : Src w x r P) (hr : Rd y r P') (hg : x.grownBy y (some r)) : Src w y r P' := ⟨hr, h.2.1, below_grown h.2.2 hg h.2.1⟩
theorem Src.ext {w x y : World} {r P : Nat} (h : Src w x r P) (hb : Below x.heap.size x y) : Src w y r P := ⟨h.1.ext hb, h.2.1, ext_trans h.2.2 hb⟩
theorem Src.alloc {w x : World} {r P : Nat} (h : Src w x r P) (o : Obj) : Src w (x.alloc o) r P := h.ext (below_box x o)
/-- What a Draw function answers. -/
def Drawn (V : Value → Prop) (w : World) (e : Ending) (w' : World) : Prop := ∃ v, e = .returned v ∧ V v ∧ Below w.heap.size w w'
theorem Src.fin {w x : World} {r P : Nat} {V : Value → Prop} {v : Value} (h : Src w x r P) (hv : V v) : Drawn V w (.returned v) x := ⟨v, rfl, hv, h.2.2⟩
/-- The source inside a function that takes it. -/
def Sub (w x : World) (r P : Nat) : Prop := Rd x r P ∧ w.grownBy x (some r)
theorem Sub.mk1 {w : World} {r P : Nat} (h : Rd w r P) : Sub w w r P := ⟨h, World.grownBy.refl _ _⟩
theorem Sub.got {w x y : World} {r P P' : Nat} (h : Sub w x r P) (hr : Rd y r P') (hg : x.grownBy y (some r)) : Sub w y r P' := ⟨hr, grown_trans' h.2 hg⟩
theorem Sub.ext {w x y : World} {r P : Nat} (h : Sub w x r P) (hb : Below x.heap.size x y) : Sub w y r P := ⟨h.1.ext hb, grown_ext h.2 hb⟩
theorem Sub.alloc {w x : World} {r P : Nat} (h : Sub w x r P) (o : Obj) : Sub w (x.alloc o) r P := h.ext (below_box x o)
theorem Sub.fin {w x : World} {r P P' : Nat} {V : Value → Prop} {v : Value} (h : Sub w x r P) (hv : V v) (hP : P ≤ P') : Got V r P' w (.returned v) x := ⟨v, rfl, hv, h.1.mono hP, h.2⟩

theorem Rd.drew {w : World} {r P : Nat} (h : Rd w r P) : Rd w.drew r P := h
theorem Src.drew {w x : World} {r P : Nat} (h : Src w x r P) : Src w x.drew r P := ⟨h.1, h.2.1, h.2.2.drew⟩
theorem Sub.drew {w x : World} {r P : Nat} (h : Sub w x r P) : Sub w x.drew r P := ⟨h.1, grown_drew h.2⟩
theorem Sub.mono {w x : World} {r P P' : Nat} (h : Sub w x r P) (hP : P ≤ P') : Sub w x r P' := ⟨h.1.mono hP, h.2⟩
theorem Row.got {x y : World} {g r : Nat} {e : TypeId} {cs : Array Value} (h : Row x g e cs) (hg : x.grownBy y (some r)) (hne : g ≠ r) : Row y g e cs :=
  (hg.block g h.lt (by intro e; injection e with e; exact hne e)).trans h

theorem BytesIn.ext {w w' : World} {a : Option Addr} {len cap : Nat} (h : BytesIn w a len cap) (hb : Below w.heap.size w w') : BytesIn w' a len cap := by
  obtain ⟨h1, h2, h3⟩ := h
  refine ⟨h1, h2, fun h0 => ?_⟩
  obtain ⟨g, off, ha, hc⟩ := h3 h0
  refine ⟨g, off, ha, fun j hj => ?_⟩
  obtain ⟨c, hcc⟩ := hc j hj
  exact ⟨c, cell_later hb hcc⟩

end Go.Proofs.Ytafngfmloiikoaa
