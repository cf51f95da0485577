/- What the laws of this seat lean on, part 17. -/
import Derived.Test.YthlbciinpidedaaGreatZK16
import Derived.Test.YthlbciinpidedaaGreatZK1
import Derived.WalkLawsBesides
import Derived.Test.YthlbciinpidedaaGreatProg
import Derived.Test.YthlbciinpidedaaGreatZK4
import Derived.WalkKit
import Derived.Lib.Hide
import Derived.WalkSpells
import Derived.Laws.Externs
import Derived.Test.YthlbciinpidedaaGreatZK10
import Derived.Test.YthlbciinpidedaaGreatZK7
/- What a log's calls make of its table: plain facts, no program in sight. -/
namespace Go.Proofs.YthlbciinpidedaaGreat
set_option linter.unusedSimpArgs false
set_option linter.unusedVariables false
set_option maxRecDepth 100000
open Go.RowKit

theorem idx_mem {l : List Int} {x : Int} (h : x ∈ l) : 0 ≤ idx l x := by
  induction l with
  | nil => cases h
  | cons y l ih =>
    unfold idx
    split
    · omega
    · rename_i hne
      have := ih (by rcases List.mem_cons.1 h with h | h; exact absurd h hne; exact h)
      split <;> omega
theorem idx_neg {l : List Int} {x : Int} (h : idx l x < 0) : ¬ x ∈ l := fun hm => by have := idx_mem hm; omega
theorem idx_nodup {l : List Int} (hn : l.Nodup) {k : Nat} {x : Int} (hk : l[k]? = some x) : idx l x = k := by
  refine idx_at hk fun j hj he => ?_
  obtain ⟨h1, e1⟩ := List.getElem?_eq_some_iff.1 he
  obtain ⟨h2, e2⟩ := List.getElem?_eq_some_iff.1 hk
  exact (List.pairwise_iff_getElem.1 hn) j k h1 h2 hj (e1.trans e2.symm)
theorem Tab.open_at (T : Tab) (hT : T.Ok) : T.order[T.order.length - 1]? = some T.open_ := by
  have hp := hT.pos
  have e : T.order[T.order.length - 1]? = some T.order[T.order.length - 1] := List.getElem?_eq_getElem (by omega)
  unfold Tab.open_
  rw [e]
  rfl
theorem Tab.len_open (T : Tab) (hT : T.Ok) : T.len T.open_ = T.last := by
  have hp := hT.pos
  have hl := hT.len
  have e := idx_nodup hT.nodup (T.open_at hT)
  unfold Tab.len Tab.last
  rw [e, if_pos (by omega), Int.toNat_natCast, hl]
theorem freeTo_mem (T : Tab) (k : Nat) (x : Int) : x ∈ T.freeTo k ↔ (0 ≤ x ∧ x < k) ∧ idx T.order x < 0 := by
  unfold Tab.freeTo
  rw [List.mem_filter, List.mem_map]
  constructor
  · rintro ⟨⟨i, hi, rfl⟩, h⟩
    have := List.mem_range.1 hi
    exact ⟨by omega, by simpa using h⟩
  · rintro ⟨h1, h2⟩
    exact ⟨⟨x.toNat, List.mem_range.2 (by omega), by omega⟩, by simpa using h2⟩
theorem Tab.roll_ok (T : Tab) (hT : T.Ok) {f : Int} (hf : (0 ≤ f ∧ f < T.segs) ∧ idx T.order f < 0) {first : Int} (h1 : 0 ≤ first ∧ first < 18446744073709551616) : (T.roll f first).Ok := by
  have hsg := hT.segs
  have hsl := hT.slots
  have hl := hT.len
  have hfs := hT.fst
  have hp := hT.pos
  have hni := idx_neg hf.2
  have hnd : (T.order ++ [f]).Nodup := by
    rw [List.nodup_append]
    refine ⟨hT.nodup, by simp, fun a ha b hb e => ?_⟩
    have : b = f := by simpa using hb
    exact hni (by rw [← this, ← e]; exact ha)
  have hin : ∀ s ∈ T.order ++ [f], 0 ≤ s ∧ s < T.segs := fun s hs => by
    rcases List.mem_append.1 hs with h | h
    · exact hT.inn s h
    · have : s = f := by simpa using h
      rw [this]; exact hf.1
  have hle := nodup_le T.segs.toNat (T.order ++ [f]) hnd (fun x hx => by have := hin x hx; omega)
  refine ⟨hsg, hsl, by show 1 ≤ (T.order ++ [f]).length; simp, by show (T.order ++ [f]).length ≤ 16; omega, by show (T.lens ++ [0]).length = (T.order ++ [f]).length; simp [hl], by show (T.firsts ++ [first]).length = (T.order ++ [f]).length; simp [hfs], hin, hnd, fun l hl' => ?_, fun x hx => ?_⟩
  · rcases List.mem_append.1 hl' with h | h
    · exact hT.lens l h
    · have : l = 0 := by simpa using h
      show 0 ≤ l ∧ l ≤ T.slots
      omega
  · rcases List.mem_append.1 hx with h | h
    · exact hT.firsts x h
    · have : x = first := by simpa using h
      rw [this]; exact h1
theorem Tab.roll_last (T : Tab) (f first : Int) : (T.roll f first).last = 0 := by simp [Tab.last, Tab.roll]
theorem Tab.roll_open (T : Tab) (f first : Int) : (T.roll f first).open_ = f := by simp [Tab.open_, Tab.roll]
theorem Tab.count_ok (T : Tab) (hT : T.Ok) (h : T.last < T.slots) : T.count.Ok := by
  obtain ⟨h1, h2, h3⟩ := hT.last
  refine ⟨hT.segs, hT.slots, hT.pos, hT.many, by show (T.lens.set _ _).length = T.order.length; rw [List.length_set]; exact hT.len, hT.fst, hT.inn, hT.nodup, fun l hl => ?_, hT.firsts⟩
  rcases List.mem_or_eq_of_mem_set hl with h' | h'
  · exact hT.lens l h'
  · show 0 ≤ l ∧ l ≤ T.slots
    omega
theorem Tab.count_last (T : Tab) (hT : T.Ok) : T.count.last = T.last + 1 := by
  have hp := hT.pos
  have hl := hT.len
  unfold Tab.last Tab.count
  simp only [List.length_set]
  rw [List.getElem?_set_self (by omega)]
  rfl
theorem Tab.count_open (T : Tab) : T.count.open_ = T.open_ := rfl
/-- How many are free. -/
theorem filter_length_add (p : Int → Bool) (l : List Int) : (l.filter p).length + (l.filter fun x => !p x).length = l.length := by
  induction l with
  | nil => rfl
  | cons x l ih =>
    cases hp : p x <;> simp [hp] <;> omega
theorem Tab.free_length (T : Tab) (hT : T.Ok) (N : Nat) (hN : T.segs = N) : (T.freeTo N).length + T.order.length = N := by
  have hall : ((List.range N).map fun i : Nat => (i : Int)).length = N := by simp
  have h1 := filter_length_add (fun s => decide (idx T.order s < 0)) ((List.range N).map fun i : Nat => (i : Int))
  rw [hall] at h1
  have hnd : ((List.range N).map fun i : Nat => (i : Int)).Nodup := by
    refine List.pairwise_map.2 (List.Pairwise.imp (fun {a b} (h : a ≠ b) => ?_) List.nodup_range)
    show (a : Int) ≠ (b : Int)
    omega
  have hperm : (((List.range N).map fun i : Nat => (i : Int)).filter fun x => !decide (idx T.order x < 0)).Perm T.order := by
    refine (List.perm_ext_iff_of_nodup (hnd.filter _) hT.nodup).2 fun x => ?_
    rw [List.mem_filter, List.mem_map]
    constructor
    · rintro ⟨_, h⟩
      have h2 : ¬ idx T.order x < 0 := by simpa using h
      exact List.mem_of_getElem? (idx_some (by omega))
    · intro hx
      have h2 := hT.inn x hx
      have h3 := idx_mem hx
      exact ⟨⟨x.toNat, List.mem_range.2 (by omega), by omega⟩, by simpa using h3⟩
  have h3 := hperm.length_eq
  unfold Tab.freeTo
  omega
theorem Tab.room_none (T : Tab) (hT : T.Ok) : T.room = 0 ↔ T.last = T.slots ∧ T.freeTo T.segs.toNat = [] := by
  have hsg := hT.segs
  have hsl := hT.slots
  obtain ⟨h1, h2, h3⟩ := hT.last
  have hf := T.free_length hT T.segs.toNat (by omega)
  have hle := hT.le_segs
  have e : T.room = T.slots - T.last + T.slots * (T.segs - T.order.length) := rfl
  obtain ⟨k, hk⟩ : ∃ k : Nat, T.segs - T.order.length = k := ⟨(T.segs - T.order.length).toNat, by omega⟩
  rw [hk] at e
  have hfk : (T.freeTo T.segs.toNat).length = k := by omega
  have hm : 0 ≤ T.slots * (k : Int) := Int.mul_nonneg (by omega) (by omega)
  constructor
  · intro h0
    have hk0 : T.slots * (k : Int) = 0 := by omega
    rcases Int.mul_eq_zero.1 hk0 with h | h
    · omega
    · exact ⟨by omega, List.eq_nil_of_length_eq_zero (by omega)⟩
  · rintro ⟨ha, hb⟩
    rw [hb] at hfk
    have : k = 0 := by simpa using hfk.symm
    subst this
    rw [e, ha]
    simp
end Go.Proofs.YthlbciinpidedaaGreat
/- Floating point numbers by their bits: of which kind one is, how it stands to 0, to 1, to the greatest one; what is left of it times 1, made whole. No program in sight. -/
namespace Go.Proofs.YthlbciinpidedaaGreat
set_option linter.unusedSimpArgs false
set_option linter.unusedVariables false
set_option maxRecDepth 100000
open Go.RowKit
open Ieee

theorem d_sw : Ieee.double.signWeight = 9223372036854775808 := rfl
theorem d_bin : Ieee.double.binade = 4503599627370496 := rfl
theorem d_inf : Ieee.double.infRung = 9218868437227405312 := rfl
theorem d_lp : Ieee.double.leastPlace = -1074 := rfl
theorem d_fb : Ieee.double.fractionBits = 52 := rfl
/-- The kind of a number, by its bits. -/
def kindB (b : Nat) : Int :=
  if b % 9223372036854775808 > 9218868437227405312 then 0
  else if b % 9223372036854775808 = 9218868437227405312 then (if 9223372036854775808 ≤ b then 1 else 6)
  else if b % 9223372036854775808 = 0 then (if 9223372036854775808 ≤ b then 3 else 4)
  else if 9223372036854775808 ≤ b then 2 else 5
theorem d_neg (b : Nat) (hb : b < 18446744073709551616) : (b / 9223372036854775808 % 2 == 1) = decide (9223372036854775808 ≤ b) := by
  by_cases h : 9223372036854775808 ≤ b
  · have : b / 9223372036854775808 = 1 := by omega
    rw [this, decide_eq_true h]; rfl
  · have : b / 9223372036854775808 = 0 := by omega
    rw [this, decide_eq_false h]; rfl
/-- The size of a number's digits, and their place. -/
def magB (b : Nat) : Nat := if b % 9223372036854775808 < 4503599627370496 then b % 9223372036854775808 else 4503599627370496 + b % 9223372036854775808 % 4503599627370496
def upB (b : Nat) : Nat := if b % 9223372036854775808 < 4503599627370496 then 0 else b % 9223372036854775808 / 4503599627370496 - 1
theorem read_num (b : Nat) (hb : b < 18446744073709551616) (h : b % 9223372036854775808 < 9218868437227405312) : Ieee.double.read b = .number (decide (9223372036854775808 ≤ b)) (magB b) (-1074 + (upB b : Nat)) := by
  unfold Format.read magB upB
  simp only [d_sw, d_bin, d_inf, d_lp, d_neg b hb]
  by_cases h1 : b % 9223372036854775808 < 4503599627370496
  · rw [if_pos h1, if_pos h1, if_pos h1]; simp
  · rw [if_neg h1, if_neg h1, if_neg h1, if_pos h]
theorem read_inf (b : Nat) (hb : b < 18446744073709551616) (h : b % 9223372036854775808 = 9218868437227405312) : Ieee.double.read b = .infinity (decide (9223372036854775808 ≤ b)) := by
  unfold Format.read
  simp only [d_sw, d_bin, d_inf, d_lp, d_neg b hb, h]
  simp
theorem read_nan (b : Nat) (hb : b < 18446744073709551616) (h : 9218868437227405312 < b % 9223372036854775808) : ∃ s t, Ieee.double.read b = .nan s t := by
  unfold Format.read
  simp only [d_sw, d_bin, d_inf, d_lp, d_neg b hb]
  rw [if_neg (by omega), if_neg (by omega), if_neg (by omega)]
  exact ⟨_, _, rfl⟩
theorem mag_bound (b : Nat) (h : b % 9223372036854775808 < 9218868437227405312) : magB b ≤ 9007199254740991 ∧ upB b ≤ 2045 := by
  unfold magB upB
  split <;> omega
theorem mag_zero (b : Nat) : magB b = 0 ↔ b % 9223372036854775808 = 0 := by
  unfold magB
  split <;> omega
theorem order_num (m n : Nat) (s t : Bool) (i j : Int) : Datum.order (.number s m i) (.number t n j) = some (compare (signed s m (i - min i j).toNat) (signed t n (j - min i j).toNat)) := rfl
/-- A number against 0. -/
theorem cmp_int (x y : Int) : compare x y = if x < y then .lt else if x = y then .eq else .gt := rfl
theorem cmp_lt {x y : Int} (h : x < y) : compare x y = .lt := by rw [cmp_int, if_pos h]
theorem cmp_gt {x y : Int} (h : y < x) : compare x y = .gt := by rw [cmp_int, if_neg (by omega), if_neg (by omega)]
theorem cmp_self (x : Int) : compare x x = .eq := by rw [cmp_int, if_neg (by omega), if_pos rfl]
theorem of_cmp_gt {x y : Int} (h : compare x y = .gt) : y < x := by
  rw [cmp_int] at h
  split at h
  · cases h
  · split at h
    · cases h
    · omega
theorem signed_zero (s : Bool) (m k : Nat) (h : m = 0) : signed s m k = 0 := by subst h; unfold signed; cases s <;> simp
theorem signed_pos (m k : Nat) (h : m ≠ 0) : 0 < signed false m k := by
  unfold signed
  have : 0 < m <<< k := by rw [Nat.shiftLeft_eq]; exact Nat.mul_pos (by omega) (Nat.pow_pos (by omega))
  rw [Nat.shiftLeft_eq] at *
  simp only [if_true, if_false, Bool.false_eq_true]
  omega
theorem signed_neg (m k : Nat) (h : m ≠ 0) : signed true m k < 0 := by
  unfold signed
  have : 0 < m <<< k := by rw [Nat.shiftLeft_eq]; exact Nat.mul_pos (by omega) (Nat.pow_pos (by omega))
  rw [Nat.shiftLeft_eq] at *
  simp only [if_true, if_false, Bool.false_eq_true]
  omega
theorem order_zero (b : Nat) (hb : b < 18446744073709551616) (h : b % 9223372036854775808 < 9218868437227405312) :
    Ieee.double.order b 0 = some (if b % 9223372036854775808 = 0 then .eq else if 9223372036854775808 ≤ b then .lt else .gt) := by
  have h0 : Ieee.double.read 0 = .number false 0 (-1074) := by rw [read_num 0 (by omega) (by omega)]; rfl
  unfold Format.order
  rw [read_num b hb h, h0, order_num]
  rw [signed_zero false 0 _ rfl]
  by_cases hz : b % 9223372036854775808 = 0
  · rw [if_pos hz, signed_zero _ _ _ ((mag_zero b).2 hz)]; rfl
  · have hm : magB b ≠ 0 := fun h => hz ((mag_zero b).1 h)
    rw [if_neg hz]
    by_cases hn : 9223372036854775808 ≤ b
    · rw [if_pos hn, decide_eq_true hn, cmp_lt (signed_neg _ _ hm)]
    · rw [if_neg hn, decide_eq_false hn, cmp_gt (signed_pos _ _ hm)]
theorem order_self (b : Nat) (hb : b < 18446744073709551616) (h : b % 9223372036854775808 ≤ 9218868437227405312) : Ieee.double.order b b = some .eq := by
  unfold Format.order
  by_cases h1 : b % 9223372036854775808 < 9218868437227405312
  · rw [read_num b hb h1, order_num, cmp_self]
  · rw [read_inf b hb (by omega)]
    cases decide (9223372036854775808 ≤ b) <;> rfl
theorem order_nan (b c : Nat) (hb : b < 18446744073709551616) (h : 9218868437227405312 < b % 9223372036854775808) : Ieee.double.order b c = none := by
  obtain ⟨s, t, e⟩ := read_nan b hb h
  unfold Format.order
  rw [e]
  rfl
theorem order_inf (b c : Nat) (hb : b < 18446744073709551616) (h : b % 9223372036854775808 = 9218868437227405312) (hc : c % 9223372036854775808 < 9218868437227405312) (hc2 : c < 18446744073709551616) :
    Ieee.double.order b c = some (if 9223372036854775808 ≤ b then .lt else .gt) := by
  unfold Format.order
  rw [read_inf b hb h, read_num c hc2 hc]
  show some (if decide (9223372036854775808 ≤ b) = true then _ else _) = _
  by_cases hn : 9223372036854775808 ≤ b
  · rw [if_pos hn, if_pos (decide_eq_true hn)]
  · rw [if_neg hn, if_neg (by simpa using hn)]
/-- A number is not above the greatest one. -/
theorem order_max (b : Nat) (hb : b < 18446744073709551616) (h : b % 9223372036854775808 < 9218868437227405312) : Ieee.double.order b 9218868437227405311 ≠ some .gt := by
  have h0 : Ieee.double.read 9218868437227405311 = .number false 9007199254740991 (-1074 + (2045 : Nat)) := by rw [read_num _ (by omega) (by omega)]; rfl
  obtain ⟨hm, hu⟩ := mag_bound b h
  unfold Format.order
  rw [read_num b hb h, h0, order_num]
  have e1 : min (-1074 + (upB b : Int)) (-1074 + (2045 : Nat)) = -1074 + (upB b : Int) := by omega
  rw [e1]
  have e2 : (-1074 + (upB b : Int) - (-1074 + (upB b : Int))).toNat = 0 := by omega
  have e3 : (-1074 + ((2045 : Nat) : Int) - (-1074 + (upB b : Int))).toNat = 2045 - upB b := by omega
  rw [e2, e3]
  intro hc
  have hc1 := of_cmp_gt (Option.some.inj hc)
  have h1 : signed (decide (9223372036854775808 ≤ b)) (magB b) 0 ≤ (magB b : Int) := by
    unfold signed
    simp
    split <;> omega
  have h2 : ((9007199254740991 : Nat) : Int) ≤ signed false 9007199254740991 (2045 - upB b) := by
    unfold signed
    rw [Nat.shiftLeft_eq]
    have : 0 < 2 ^ (2045 - upB b) := Nat.pow_pos (by omega)
    have h3 : 9007199254740991 * 1 ≤ 9007199254740991 * 2 ^ (2045 - upB b) := Nat.mul_le_mul_left _ this
    simp only [Bool.false_eq_true, if_false]
    omega
  have : signed false 9007199254740991 (2045 - upB b) < signed (decide (9223372036854775808 ≤ b)) (magB b) 0 := hc1
  omega
theorem log2_mul (m k : Nat) (hm : m ≠ 0) : (m * 2 ^ k).log2 = m.log2 + k := by
  have h1 : 0 < m * 2 ^ k := Nat.mul_pos (by omega) (Nat.pow_pos (by omega))
  refine (Nat.log2_eq_iff (by omega)).2 ⟨?_, ?_⟩
  · rw [Nat.pow_add]; exact Nat.mul_le_mul_right _ (Nat.log2_self_le hm)
  · have := (Nat.log2_lt hm).1 (Nat.lt_succ_self m.log2)
    rw [show m.log2 + k + 1 = (m.log2 + 1) + k by omega, Nat.pow_add]
    exact (Nat.mul_lt_mul_right (Nat.pow_pos (by omega))).2 this
/-- Digits that fit are kept as they are. -/
theorem cut_fit (way : Toward) (neg : Bool) (m k : Nat) (hm : m ≠ 0) : way.cut neg (m * 2 ^ k) k = m := by
  unfold Toward.cut
  rw [log2_mul m k hm, Nat.min_eq_left (by omega), Nat.shiftLeft_eq, Nat.one_mul]
  have hp : 0 < 2 ^ k := Nat.pow_pos (by omega)
  have h1 : m * 2 ^ k / 2 ^ k = m := Nat.mul_div_cancel _ hp
  have h2 : m * 2 ^ k % 2 ^ k = 0 := Nat.mul_mod_left _ _
  have h3 : (2 ^ k == 0) = false := beq_eq_false_iff_ne.2 (by omega)
  cases way <;> simp [h1, h2, h3]
theorem nearest_fit (b : Nat) (hb : b < 18446744073709551616) (h : b % 9223372036854775808 < 9218868437227405312) : Ieee.double.nearest (decide (9223372036854775808 ≤ b)) (magB b * 2 ^ 52) (-1074 + (upB b : Nat) - 52) = b := by
  have hw : ∀ r, r = b % 9223372036854775808 → Ieee.double.word (decide (9223372036854775808 ≤ b)) r = b := fun r hr => by
    unfold Format.word
    rw [d_sw, hr]
    by_cases hn : 9223372036854775808 ≤ b
    · rw [if_pos (decide_eq_true hn)]; omega
    · rw [if_neg (by simpa using hn)]; omega
  unfold Format.nearest
  by_cases hz : b % 9223372036854775808 = 0
  · have hm : magB b = 0 := (mag_zero b).2 hz
    rw [hm, Nat.zero_mul, if_pos rfl]
    exact hw 0 hz.symm
  have hm : magB b ≠ 0 := fun h => hz ((mag_zero b).1 h)
  have hm2 : magB b * 2 ^ 52 ≠ 0 := Nat.mul_ne_zero hm (by decide)
  rw [if_neg hm2, log2_mul _ _ hm, d_fb, d_lp, d_bin, d_inf]
  have hl : max (-1074 + ((upB b : Nat) : Int) - 52 + ((magB b).log2 + 52 : Nat) - (52 : Nat)) (-1074) = -1074 + (upB b : Nat) := by
    by_cases h1 : b % 9223372036854775808 < 4503599627370496
    · have hu : upB b = 0 := by unfold upB; rw [if_pos h1]
      have hmb : magB b = b % 9223372036854775808 := by unfold magB; rw [if_pos h1]
      have : (magB b).log2 < 52 := (Nat.log2_lt hm).2 (by rw [hmb]; exact h1)
      rw [hu]; omega
    · have hmb : magB b = 4503599627370496 + b % 9223372036854775808 % 4503599627370496 := by unfold magB; rw [if_neg h1]
      have : (magB b).log2 = 52 := (Nat.log2_eq_iff hm).2 ⟨by rw [hmb]; show 4503599627370496 ≤ _; omega, by rw [hmb]; show _ < 9007199254740992; omega⟩
      omega
  simp only [hl]
  have e1 : (-1074 + ((upB b : Nat) : Int) - 52 - (-1074 + (upB b : Nat))).toNat = 0 := by omega
  have e2 : (-1074 + ((upB b : Nat) : Int) - (-1074 + (upB b : Nat) - 52)).toNat = 52 := by omega
  have e3 : (-1074 + ((upB b : Nat) : Int) - (-1074)).toNat = upB b := by omega
  rw [e1, e2, e3, Nat.shiftLeft_zero, cut_fit _ _ _ _ hm]
  refine hw _ ?_
  unfold upB magB
  split <;> omega
theorem mul_one_ (b : Nat) (hb : b < 18446744073709551616) (h : b % 9223372036854775808 < 9218868437227405312) : Ieee.double.mul b 4607182418800017408 = some b := by
  have h0 : Ieee.double.read 4607182418800017408 = .number false (2 ^ 52) (-52) := by rw [read_num _ (by omega) (by omega)]; rfl
  unfold Format.mul
  rw [read_num b hb h, h0]
  show some (Ieee.double.nearest (decide (9223372036854775808 ≤ b) ^^ false) (magB b * 2 ^ 52) (-1074 + (upB b : Nat) + -52)) = some b
  rw [Bool.xor_false]
  exact congrArg some (nearest_fit b hb h)
/-- A number that is not above 1. -/
theorem order_one (b : Nat) (h : b % 9223372036854775808 < 9218868437227405312) (hn : b < 9223372036854775808) (hc : Ieee.double.order b 4607182418800017408 ≠ some .gt) : b ≤ 4607182418800017408 := by
  have hb : b < 18446744073709551616 := by omega
  rcases Nat.lt_or_ge 4607182418800017408 b with hlt | hle
  · exfalso
    refine hc ?_
    have h0 : Ieee.double.read 4607182418800017408 = .number false 4503599627370496 (-1074 + (1022 : Nat)) := by rw [read_num _ (by omega) (by omega)]; rfl
    have hmod : b % 9223372036854775808 = b := Nat.mod_eq_of_lt hn
    have hu : upB b = b / 4503599627370496 - 1 := by unfold upB; rw [hmod, if_neg (by omega)]
    have hm : magB b = 4503599627370496 + b % 4503599627370496 := by unfold magB; rw [hmod, if_neg (by omega)]
    have hu2 : 1022 ≤ upB b := by rw [hu]; omega
    unfold Format.order
    rw [read_num b hb h, h0, order_num]
    have e1 : min (-1074 + (upB b : Int)) (-1074 + (1022 : Nat)) = -1074 + (1022 : Nat) := by omega
    rw [e1]
    have e2 : (-1074 + (upB b : Int) - (-1074 + (1022 : Nat))).toNat = upB b - 1022 := by omega
    have e3 : (-1074 + ((1022 : Nat) : Int) - (-1074 + (1022 : Nat))).toNat = 0 := by omega
    rw [e2, e3, decide_eq_false (by omega)]
    refine congrArg some (cmp_gt ?_)
    unfold signed
    simp only [Bool.false_eq_true, if_false, Nat.shiftLeft_eq, Nat.pow_zero, Nat.mul_one]
    by_cases he : upB b = 1022
    · rw [he, Nat.sub_self, Nat.pow_zero, Nat.mul_one, hm]
      omega
    · have h2 : 2 ^ 1 ≤ 2 ^ (upB b - 1022) := Nat.pow_le_pow_right (by omega) (by omega)
      have h3 : magB b * 2 ^ 1 ≤ magB b * 2 ^ (upB b - 1022) := Nat.mul_le_mul_left _ h2
      rw [hm] at h3 ⊢
      omega
  · exact hle
/-- What is left of a number, made whole. -/
def floorB (b : Nat) : Nat := Ieee.double.write ((Ieee.double.read b).integral .down)
theorem cut_small (m k : Nat) (h : m < 2 ^ k) : Toward.down.cut false m k = 0 := by
  unfold Toward.cut
  have hg : m < 1 <<< min k (m.log2 + 2) := by
    rw [Nat.shiftLeft_eq, Nat.one_mul]
    rcases Nat.le_total k (m.log2 + 2) with h1 | h1
    · rw [Nat.min_eq_left h1]; exact h
    · rw [Nat.min_eq_right h1]
      exact Nat.lt_of_lt_of_le Nat.lt_log2_self (Nat.pow_le_pow_right (by omega) (by omega))
  simp only [Nat.div_eq_of_lt hg, Bool.false_and, Bool.toNat_false]
theorem floor_small (b : Nat) (hn : b < 4607182418800017408) : floorB b = 0 := by
  have hmod : b % 9223372036854775808 = b := Nat.mod_eq_of_lt (by omega)
  unfold floorB
  rw [read_num b (by omega) (by omega), decide_eq_false (by omega)]
  have hu : upB b ≤ 1021 := by unfold upB; rw [hmod]; split <;> omega
  have hm : magB b < 9007199254740992 := by unfold magB; rw [hmod]; split <;> omega
  have e1 : (-1074 + ((upB b : Nat) : Int)).toNat = 0 := by omega
  have e2 : (-(-1074 + ((upB b : Nat) : Int))).toNat = 1074 - upB b := by omega
  show Ieee.double.write (.number false (Toward.down.cut false (magB b <<< (-1074 + ((upB b : Nat) : Int)).toNat) (-(-1074 + ((upB b : Nat) : Int))).toNat) 0) = 0
  rw [e1, e2, Nat.shiftLeft_zero, cut_small]
  · rfl
  · exact Nat.lt_of_lt_of_le hm (show 2 ^ 53 ≤ 2 ^ (1074 - upB b) from Nat.pow_le_pow_right (by omega) (by omega))
theorem floor_one : floorB 4607182418800017408 = 4607182418800017408 := by decide
theorem floor_minus : floorB 9223372036854775808 = 9223372036854775808 := by decide
end Go.Proofs.YthlbciinpidedaaGreat
/- ttl.Kind and Share, check.Conf and Sectors, and the document's: a float's kind by its order, and by its bits. -/
namespace Go.Proofs.YthlbciinpidedaaGreat
set_option linter.unusedSimpArgs false
set_option linter.unusedVariables false
set_option maxRecDepth 100000
open Go.RowKit
attribute [local go_sem high] run_mx run_mn
theorem flip (b : Nat) (hb : b < 18446744073709551616) : b ^^^ 9223372036854775808 < 18446744073709551616 ∧ (b ^^^ 9223372036854775808) % 9223372036854775808 = b % 9223372036854775808 ∧ (9223372036854775808 ≤ b ^^^ 9223372036854775808 ↔ ¬ 9223372036854775808 ≤ b) := by
  have h1 : (b ^^^ 2 ^ 63) % 2 ^ 63 = b % 2 ^ 63 := by rw [Nat.xor_mod_two_pow, Nat.mod_self, Nat.xor_zero]
  have h2 : (b ^^^ 2 ^ 63) / 2 ^ 63 = b / 2 ^ 63 ^^^ 1 := by rw [Nat.xor_div_two_pow, Nat.div_self (Nat.pow_pos (by omega))]
  have h3 : b / 2 ^ 63 = 0 ∨ b / 2 ^ 63 = 1 := by omega
  have h4 : (b ^^^ 2 ^ 63) / 2 ^ 63 = 1 - b / 2 ^ 63 := by
    rw [h2]
    rcases h3 with h | h <;> rw [h] <;> rfl
  show b ^^^ 2 ^ 63 < 18446744073709551616 ∧ (b ^^^ 2 ^ 63) % 9223372036854775808 = b % 9223372036854775808 ∧ (9223372036854775808 ≤ b ^^^ 2 ^ 63 ↔ ¬ 9223372036854775808 ≤ b)
  generalize b ^^^ 2 ^ 63 = c at *
  omega
theorem run_f64bits (b : Nat) (w : World) : (callFunc 90 #[.float .f64 b]).run Tryz.prog w = .ok (.value (.int .u64 b)) w := by
  rw [run_callFunc_extern Tryz.func90 (by kernel_rfl) (by kernel_rfl) (by kernel_rfl) (e := Extern.MathFloatBits.float64bits) (by kernel_rfl)]
  rfl
theorem run_archFloor (b : Nat) (hb : b < 18446744073709551616) (h : b % 9223372036854775808 < 9218868437227405312) (w : World) : (callFunc 162 #[.float .f64 b]).run Tryz.prog w = .ok (.value (.float .f64 (floorB b))) w := by
  rw [run_callFunc_extern Tryz.func162 (by kernel_rfl) (by kernel_rfl) (by kernel_rfl) (e := Extern.MathFloor.toIntegral "math.archFloor" .down) (by kernel_rfl)]
  have hr : FloatKind.f64.decode b = .number (decide (9223372036854775808 ≤ b)) (magB b) (-1074 + (upB b : Nat)) := read_num b hb h
  have e : Extern.MathFloor.toIntegral "math.archFloor" .down #[.float .f64 b] = pure (.float .f64 (floorB b)) := by
    unfold floorB
    rw [show Ieee.double.read b = FloatKind.f64.decode b from rfl, hr]
    delta Extern.MathFloor.toIntegral
    show (match FloatKind.f64.decode b with | .nan _ _ => _ | d => pure (Value.float .f64 (FloatKind.f64.encode (d.integral .down)))) = _
    rw [hr]
    rfl
  rw [e]
  rfl
set_option maxHeartbeats 1000000 in
theorem IsNaN_any (b : Nat) (hb : b < 18446744073709551616) (w : World) : Calls Tryz.prog 159 #[.float .f64 b] w fun e w' => e = .returned (.bool (decide (kindB b = 0))) ∧ w = w' := by
  have ho : (FloatKind.f64.format.order b b != some .eq) = decide (kindB b = 0) := by
    show (Ieee.double.order b b != some .eq) = _
    by_cases h : 9218868437227405312 < b % 9223372036854775808
    · rw [order_nan b b hb h, decide_eq_true (by unfold kindB; rw [if_pos (by omega)])]; rfl
    · rw [order_self b hb (by omega), decide_eq_false (by unfold kindB; rw [if_neg (by omega)]; split <;> (try split) <;> (try split) <;> omega)]; rfl
  go_enter Tryz.func159, Tryz.ntmps159
  go_wp2
  go_ret
  exact ⟨rfl, rfl⟩
theorem kind_range (b : Nat) : 0 ≤ kindB b ∧ kindB b ≤ 6 := by
  unfold kindB
  split
  · omega
  · split
    · split <;> omega
    · split
      · split <;> omega
      · split <;> omega
theorem kind_nan {b : Nat} (h : kindB b ≠ 0) : b % 9223372036854775808 ≤ 9218868437227405312 := by
  unfold kindB at h
  split at h
  · exact absurd rfl h
  · omega
theorem kind_6 {b : Nat} : kindB b = 6 ↔ b % 9223372036854775808 = 9218868437227405312 ∧ b < 9223372036854775808 := by
  unfold kindB
  split
  · omega
  · split
    · split <;> omega
    · split
      · split <;> omega
      · split <;> omega
theorem kind_1 {b : Nat} : kindB b = 1 ↔ b % 9223372036854775808 = 9218868437227405312 ∧ 9223372036854775808 ≤ b := by
  unfold kindB
  split
  · omega
  · split
    · split <;> omega
    · split
      · split <;> omega
      · split <;> omega
theorem order_top (b : Nat) (hb : b < 18446744073709551616) (h : b % 9223372036854775808 ≤ 9218868437227405312) : (Ieee.double.order b 9218868437227405311 == some .gt) = decide (b % 9223372036854775808 = 9218868437227405312 ∧ b < 9223372036854775808) := by
  by_cases h1 : b % 9223372036854775808 = 9218868437227405312
  · rw [order_inf b _ hb h1 (by omega) (by omega)]
    by_cases h2 : 9223372036854775808 ≤ b
    · rw [if_pos h2, decide_eq_false (by omega)]; rfl
    · rw [if_neg h2, decide_eq_true (by omega)]; rfl
  · rw [decide_eq_false (by omega)]
    have := order_max b hb (by omega)
    cases h3 : Ieee.double.order b 9218868437227405311 with
    | none => rfl
    | some o => cases o with
      | lt => rfl
      | eq => rfl
      | gt => exact absurd h3 this
set_option maxHeartbeats 1000000 in
theorem IsInf_up (b : Nat) (hb : b < 18446744073709551616) (hk : kindB b ≠ 0) (w : World) : Calls Tryz.prog 160 #[.float .f64 b, .int .i64 1] w fun e w' => e = .returned (.bool (decide (kindB b = 6))) ∧ w = w' := by
  have ho : (FloatKind.f64.format.order b 9218868437227405311 == some .gt) = decide (kindB b = 6) := by
    show (Ieee.double.order b 9218868437227405311 == some .gt) = _
    rw [order_top b hb (kind_nan hk)]
    exact decide_eq_decide.2 kind_6.symm
  go_enter Tryz.func160, Tryz.ntmps160
  go_wp2
  go_ret
  exact ⟨rfl, rfl⟩
set_option maxHeartbeats 1000000 in
theorem IsInf_down (b : Nat) (hb : b < 18446744073709551616) (hk : kindB b ≠ 0) (w : World) : Calls Tryz.prog 160 #[.float .f64 b, .int .i64 (-1)] w fun e w' => e = .returned (.bool (decide (kindB b = 1))) ∧ w = w' := by
  obtain ⟨f1, f2, f3⟩ := flip b hb
  have hn : Op.negFloat .f64 b = b ^^^ 9223372036854775808 := rfl
  have hr : ∀ w : World, (Op.unary .neg (.float .f64 b)).run Tryz.prog w = .ok (.float .f64 (b ^^^ 9223372036854775808)) w := fun _ => rfl
  have ho : (FloatKind.f64.format.order (b ^^^ 9223372036854775808) 9218868437227405311 == some .gt) = decide (kindB b = 1) := by
    show (Ieee.double.order _ 9218868437227405311 == some .gt) = _
    rw [order_top _ f1 (by rw [f2]; exact kind_nan hk), f2]
    refine decide_eq_decide.2 ?_
    rw [kind_1]
    omega
  generalize b ^^^ 9223372036854775808 = c at *
  go_enter Tryz.func160, Tryz.ntmps160
  go_wp2
  go_ret
  exact ⟨rfl, rfl⟩
set_option maxHeartbeats 1000000 in
theorem Signbit_any (b : Nat) (hb : b < 18446744073709551616) (w : World) : Calls Tryz.prog 161 #[.float .f64 b] w fun e w' => e = .returned (.bool (decide (9223372036854775808 ≤ b))) ∧ w = w' := by
  have hf := run_f64bits
  have hw : decide (wrap64 (b : Int) < 0) = decide (9223372036854775808 ≤ b) := by
    refine decide_eq_decide.2 ?_
    by_cases h : 9223372036854775808 ≤ b
    · have : wrap64 (b : Int) = (b : Int) - 18446744073709551616 := by
        unfold wrap64
        omega
      rw [this]; omega
    · have : wrap64 (b : Int) = (b : Int) := IntWalk.wrap64_in _ (by omega)
      rw [this]; omega
  go_enter Tryz.func161, Tryz.ntmps161
  go_wp2
  go_ret
  exact ⟨rfl, rfl⟩
theorem order_lt0 (b : Nat) (hb : b < 18446744073709551616) (hk : kindB b ≠ 0) : (Ieee.double.order b 0 == some .lt) = decide (kindB b = 1 ∨ kindB b = 2) ∧ (Ieee.double.order b 0 == some .gt) = decide (kindB b = 5 ∨ kindB b = 6) := by
  have hn := kind_nan hk
  by_cases h1 : b % 9223372036854775808 = 9218868437227405312
  · rw [order_inf b 0 hb h1 (by omega) (by omega)]
    by_cases h2 : 9223372036854775808 ≤ b
    · have hk1 : kindB b = 1 := kind_1.2 ⟨h1, h2⟩
      rw [if_pos h2, hk1]; decide
    · have hk1 : kindB b = 6 := kind_6.2 ⟨h1, by omega⟩
      rw [if_neg h2, hk1]; decide
  · rw [order_zero b hb (by omega)]
    have hkk : kindB b = if b % 9223372036854775808 = 0 then (if 9223372036854775808 ≤ b then 3 else 4) else if 9223372036854775808 ≤ b then 2 else 5 := by
      unfold kindB; rw [if_neg (by omega), if_neg h1]
    rw [hkk]
    split <;> split <;> decide
set_option maxHeartbeats 4000000 in
theorem Kind_any (b : Nat) (hb : b < 18446744073709551616) (w : World) : Calls Tryz.prog 148 #[.float .f64 b] w fun e w' => e = .returned (.int .i64 (kindB b)) ∧ w = w' := by
  have hi := fun v => IsNaN_any b hb v
  have hs := fun v => Signbit_any b hb v
  have hr := kind_range b
  by_cases h0 : kindB b = 0
  · rw [h0] at hi ⊢
    clear hs hr
    go_enter Tryz.func148, Tryz.ntmps148
    go_wp2_with (go_at_call 159; (with_reducible refine (hi _).mono ?_); rintro e w1 ⟨rfl, rfl⟩)
    go_ret
    exact ⟨rfl, rfl⟩
  have hdn := fun v => IsInf_down b hb h0 v
  have hup := fun v => IsInf_up b hb h0 v
  obtain ⟨z1, z2⟩ := order_lt0 b hb h0
  change (FloatKind.f64.format.order b 0 == some .lt) = _ at z1
  change (FloatKind.f64.format.order b 0 == some .gt) = _ at z2
  have hm : kindB b = 3 → decide (9223372036854775808 ≤ b) = true := fun h => by
    unfold kindB at h
    refine decide_eq_true ?_
    split at h
    · omega
    · split at h
      · split at h <;> omega
      · split at h
        · split at h <;> omega
        · split at h <;> omega
  have hp : kindB b = 4 → decide (9223372036854775808 ≤ b) = false := fun h => by
    unfold kindB at h
    refine decide_eq_false ?_
    split at h
    · omega
    · split at h
      · split at h <;> omega
      · split at h
        · split at h <;> omega
        · split at h <;> omega
  have hc : kindB b = 1 ∨ kindB b = 2 ∨ kindB b = 3 ∨ kindB b = 4 ∨ kindB b = 5 ∨ kindB b = 6 := by omega
  clear hr
  rcases hc with h | h | h | h | h | h <;> rw [h] at hi hdn hup z1 z2 hm hp h0 ⊢ <;> clear h h0
  case' inr.inr.inl => have hm := hm rfl; rw [hm] at hs
  case' inr.inr.inr.inl => have hp := hp rfl; rw [hp] at hs
  all_goals
    clear hm hp
    go_enter Tryz.func148, Tryz.ntmps148
    go_wp2_with (first
      | (go_at_call 159; (with_reducible refine (hi _).mono ?_); rintro e w1 ⟨rfl, rfl⟩)
      | (go_at_call 160; first | (with_reducible refine (hdn _).mono ?_; rintro e w1 ⟨rfl, rfl⟩) | (with_reducible refine (hup _).mono ?_; rintro e w1 ⟨rfl, rfl⟩))
      | (go_at_call 161; (with_reducible refine (hs _).mono ?_); rintro e w1 ⟨rfl, rfl⟩))
    go_ret
    exact ⟨rfl, rfl⟩
/-- May a store be made with it? -/
def shareOK (b : Nat) : Bool := decide (3 ≤ kindB b) && !(Ieee.double.order b 4607182418800017408 == some .gt)
theorem share_fin {b : Nat} (hb : b < 18446744073709551616) (h : shareOK b = true) : b % 9223372036854775808 < 9218868437227405312 ∧ 3 ≤ kindB b := by
  unfold shareOK at h
  simp only [Bool.and_eq_true, decide_eq_true_eq, Bool.not_eq_true', beq_eq_false_iff_ne] at h
  have hk := kind_nan (b := b) (by omega)
  refine ⟨?_, h.1⟩
  rcases Nat.lt_or_ge (b % 9223372036854775808) 9218868437227405312 with h1 | h1
  · exact h1
  · exfalso
    refine h.2 ?_
    rw [order_inf b _ hb (by omega) (by omega) (by omega), if_neg]
    intro h2
    have := kind_1.2 ⟨by omega, h2⟩
    omega
theorem share_int {b : Nat} (hb : b < 18446744073709551616) (h : shareOK b = true) : ∃ n, floatToIntVal .f64 (floorB b) .i64 = some n := by
  obtain ⟨h1, h2⟩ := share_fin hb h
  by_cases hn : b < 9223372036854775808
  · unfold shareOK at h
    simp only [Bool.and_eq_true, decide_eq_true_eq, Bool.not_eq_true', beq_eq_false_iff_ne] at h
    have ho := order_one b h1 hn h.2
    by_cases he : b = 4607182418800017408
    · rw [he, floor_one]; exact ⟨1, by decide⟩
    · rw [floor_small b (by omega)]; exact ⟨0, by decide⟩
  · have hz : b = 9223372036854775808 := by
      unfold kindB at h2
      split at h2
      · omega
      · split at h2
        · split at h2 <;> omega
        · split at h2
          · omega
          · split at h2 <;> omega
    rw [hz, floor_minus]
    exact ⟨0, by decide⟩
set_option maxHeartbeats 1000000 in
theorem Floor_any (b : Nat) (hb : b < 18446744073709551616) (h : b % 9223372036854775808 < 9218868437227405312) (w : World) : Calls Tryz.prog 149 #[.float .f64 b] w fun e w' => e = .returned (.float .f64 (floorB b)) ∧ w = w' := by
  have hf := fun v => run_archFloor b hb h v
  go_enter Tryz.func149, Tryz.ntmps149
  go_wp2
  go_ret
  exact ⟨rfl, rfl⟩
set_option maxHeartbeats 1000000 in
theorem Share_one (b : Nat) (hb : b < 18446744073709551616) (w : World) : Calls Tryz.prog 132 #[.float .f64 b, .int .i64 1] w fun e w' => (∃ n, e = .returned (.tuple #[.int .i64 n, .int .i64 (if shareOK b = true then 0 else 1)])) ∧ w = w' := by
  have hk := fun v => Kind_any b hb v
  by_cases h0 : kindB b < 3
  · have hs : shareOK b = false := by unfold shareOK; rw [decide_eq_false (by omega)]; rfl
    rw [if_neg (by rw [hs]; simp)]
    clear hs
    generalize kindB b = k at *
    go_enter Tryz.func132, Tryz.ntmps132
    go_wp2_with (go_at_call 148; (with_reducible refine (hk _).mono ?_); rintro e w1 ⟨rfl, rfl⟩)
    refine bodyPost_ret (v := .tuple #[.int .i64 0, .int .i64 1]) ?_ rfl ⟨⟨0, rfl⟩, rfl⟩
    rw [results_tmp2 rfl]
    simp
  by_cases h1 : Ieee.double.order b 4607182418800017408 = some .gt
  · have hs : shareOK b = false := by unfold shareOK; rw [h1]; simp
    rw [if_neg (by rw [hs]; simp)]
    have ho : (FloatKind.f64.format.order b 4607182418800017408 == some .gt) = true := by
      show (Ieee.double.order b 4607182418800017408 == some .gt) = true
      rw [h1]; rfl
    clear hs h1
    generalize kindB b = k at *
    go_enter Tryz.func132, Tryz.ntmps132
    go_wp2_with (go_at_call 148; (with_reducible refine (hk _).mono ?_); rintro e w1 ⟨rfl, rfl⟩)
    refine bodyPost_ret (v := .tuple #[.int .i64 0, .int .i64 1]) ?_ rfl ⟨⟨0, rfl⟩, rfl⟩
    rw [results_tmp2 rfl]
    simp
  have hs : shareOK b = true := by
    unfold shareOK
    rw [decide_eq_true (by omega), beq_eq_false_iff_ne.2 h1]; rfl
  rw [if_pos hs]
  obtain ⟨hf, _⟩ := share_fin hb hs
  obtain ⟨n, hn⟩ := share_int hb hs
  have hfl := fun v => Floor_any b hb hf v
  have ho : (FloatKind.f64.format.order b 4607182418800017408 == some .gt) = false := by
    show (Ieee.double.order b 4607182418800017408 == some .gt) = false
    exact beq_eq_false_iff_ne.2 h1
  have hmul : ∀ w : World, (binOp .mul 22 (.float .f64 b) (.float .f64 4607182418800017408)).run Tryz.prog w = .ok (.float .f64 b) w := fun w => run_float_arith w .mul _ .f64 b _ b (mul_one_ b hb hf)
  have hcv : ∀ w : World, (convert 22 3 (.float .f64 (floorB b))).run Tryz.prog w = .ok (.int .i64 n) w := fun w => run_convert_float_int w _ _ .f64 .i64 _ n (by kernel_rfl) (by kernel_rfl) hn
  have hone : floatOfInt .f64 1 = 4607182418800017408 := by decide
  clear hs h1 hn hf
  generalize kindB b = k at *
  generalize floorB b = fb at *
  go_enter Tryz.func132, Tryz.ntmps132
  go_wp2_with (first
    | (go_at_call 148; (with_reducible refine (hk _).mono ?_); rintro e w1 ⟨rfl, rfl⟩)
    | (go_at_call 149; (with_reducible refine (hfl _).mono ?_); rintro e w1 ⟨rfl, rfl⟩))
  refine bodyPost_ret (v := .tuple #[.int .i64 n, .int .i64 0]) ?_ rfl ⟨⟨n, rfl⟩, rfl⟩
  rw [results_tmp2 rfl]
  simp
end Go.Proofs.YthlbciinpidedaaGreat
/- check.Conf and Sectors. -/
namespace Go.Proofs.YthlbciinpidedaaGreat
set_option linter.unusedSimpArgs false
set_option linter.unusedVariables false
set_option maxRecDepth 100000
open Go.RowKit
attribute [local go_sem high] run_mx run_mn
structure Cnf where
  segs : Int
  slots : Int
  share : Nat
  rate : Int
abbrev Cnf.cells (c : Cnf) : Array Value := #[.int .i64 c.segs, .int .i64 c.slots, .float .f64 c.share, .int .i64 c.rate]
def Cnf.may (c : Cnf) : Bool := decide (4 ≤ c.segs ∧ c.segs ≤ 16) && decide (1 ≤ c.slots ∧ c.slots ≤ 30) && decide (0 ≤ c.rate ∧ c.rate ≤ 8) && shareOK c.share
theorem Conf2_any (c : Cnf) (w : World) : Calls Tryz.prog 129 #[.agg c.cells] w fun e w' => e = .returned (.int .i64 c.segs) ∧ Newer w w' := by
  go_enter Tryz.func129, Tryz.ntmps129
  go_wp2
  go_ret
  exact ⟨rfl, (Newer.refl w).alloc _⟩
theorem Conf3_any (c : Cnf) (w : World) : Calls Tryz.prog 130 #[.agg c.cells] w fun e w' => e = .returned (.int .i64 c.slots) ∧ Newer w w' := by
  go_enter Tryz.func130, Tryz.ntmps130
  go_wp2
  go_ret
  exact ⟨rfl, (Newer.refl w).alloc _⟩
theorem Conf4_any (c : Cnf) (w : World) : Calls Tryz.prog 131 #[.agg c.cells] w fun e w' => e = .returned (.int .i64 c.rate) ∧ Newer w w' := by
  go_enter Tryz.func131, Tryz.ntmps131
  go_wp2
  go_ret
  exact ⟨rfl, (Newer.refl w).alloc _⟩
set_option maxHeartbeats 4000000 in
theorem Conf1_a (c : Cnf) (low high : Int) (p : Nat) (w : World) (hc : Blk w p 24 c.cells) :
    Calls Tryz.prog 128 #[.agg #[.func (.func 129) #[] #[], .int .i64 low, .int .i64 high], .pointer (some ⟨p, 0, none⟩)] w fun e w' => e = .returned (.bool (decide (c.segs < low) || decide (high < c.segs))) ∧ Newer w w' := by
  have hS := Now.pushCells (Sep.start w) 198 #[.func (.func 129) #[] #[], .int .i64 low, .int .i64 high]
  have hB : Newer w (w.alloc (.cells #[.func (.func 129) #[] #[], .int .i64 low, .int .i64 high] 198)) := (Newer.refl w).alloc _
  go_enter Tryz.func128, Tryz.ntmps128
  go_wp2_with fail
  generalize w.alloc (.cells #[.func (.func 129) #[] #[], .int .i64 low, .int .i64 high] 198) = wb at hS hB ⊢
  have hbx := Now.blk (pre := []) hS
  have hcb := hc.below hB hc.lt
  have hcell : ∀ v, Newer wb.drew v → v.cell? ⟨w.heap.size, 0, none⟩ = some (.func (.func 129) #[] #[]) ∧ v.cell? ⟨w.heap.size, 1, none⟩ = some (.int .i64 low) ∧ v.cell? ⟨w.heap.size, 2, none⟩ = some (.int .i64 high) ∧ v.cell? ⟨p, 0, none⟩ = some (.int .i64 c.segs) ∧ v.cell? ⟨p, 1, none⟩ = some (.int .i64 c.slots) ∧ v.cell? ⟨p, 2, none⟩ = some (.float .f64 c.share) ∧ v.cell? ⟨p, 3, none⟩ = some (.int .i64 c.rate) := fun v hv => by
    have h1 := hbx.below hv.undrew hbx.lt
    have h2 := hcb.below hv.undrew hcb.lt
    exact ⟨h1.cell 0, h1.cell 1, h1.cell 2, h2.cell 0, h2.cell 1, h2.cell 2, h2.cell 3⟩
  clear hbx hcb hS
  by_cases h : c.segs < low
  ·
    refine wp_region_ord Newer.grow [(0, true), (1, true), (2, true), (3, true), (4, true), (5, true), (6, true), (7, true), (8, true), (9, true), (10, true), (11, true), (12, true), (13, true), (14, true), (15, true), (16, true)] [] (by kernel_rfl) (by kernel_rfl) rfl (by kernel_rfl) (by intro _ _ d _ _ h; cases d <;> exact h) ?_
    iterate 17
      (apply wpOrd_take
       · exact rfl
       · intro w1 h1
         (obtain ⟨b0, b1, b2, c0, c1, c2, c3⟩ := hcell w1 h1)
         go_simp
         first
           | with_reducible exact ⟨rfl, Newer.grow.refl _⟩
           | with_reducible exact Conf2_any c _ | with_reducible exact rfl
       simp only [Act.put, List.setIfInBounds_toArray, List.set_cons_zero, List.set_cons_succ])
    refine wpOrd_done fun w3 h3 => ?_
    go_wp2_with fail
    go_ret
    exact ⟨by rw [decide_eq_true h]; rfl, hB.trans h3.undrew⟩
  ·
    refine wp_region_ord Newer.grow [(0, true), (1, true), (2, true), (3, true), (4, true), (5, true), (6, true), (7, true), (8, true), (9, true), (10, true), (11, true), (12, true), (13, true), (14, true), (15, true), (16, true)] [] (by kernel_rfl) (by kernel_rfl) rfl (by kernel_rfl) (by intro _ _ d _ _ h; cases d <;> exact h) ?_
    iterate 17
      (apply wpOrd_take
       · exact rfl
       · intro w1 h1
         (obtain ⟨b0, b1, b2, c0, c1, c2, c3⟩ := hcell w1 h1)
         go_simp
         first
           | with_reducible exact ⟨rfl, Newer.grow.refl _⟩
           | with_reducible exact Conf2_any c _ | with_reducible exact rfl
       simp only [Act.put, List.setIfInBounds_toArray, List.set_cons_zero, List.set_cons_succ])
    refine wpOrd_done fun w3 h3 => ?_
    go_wp2_with fail
    go_ret
    exact ⟨by rw [show decide (c.segs < low) = false from decide_eq_false (by omega)]; rfl, hB.trans h3.undrew⟩
set_option maxHeartbeats 4000000 in
theorem Conf1_b (c : Cnf) (low high : Int) (p : Nat) (w : World) (hc : Blk w p 24 c.cells) :
    Calls Tryz.prog 128 #[.agg #[.func (.func 130) #[] #[], .int .i64 low, .int .i64 high], .pointer (some ⟨p, 0, none⟩)] w fun e w' => e = .returned (.bool (decide (c.slots < low) || decide (high < c.slots))) ∧ Newer w w' := by
  have hS := Now.pushCells (Sep.start w) 198 #[.func (.func 130) #[] #[], .int .i64 low, .int .i64 high]
  have hB : Newer w (w.alloc (.cells #[.func (.func 130) #[] #[], .int .i64 low, .int .i64 high] 198)) := (Newer.refl w).alloc _
  go_enter Tryz.func128, Tryz.ntmps128
  go_wp2_with fail
  generalize w.alloc (.cells #[.func (.func 130) #[] #[], .int .i64 low, .int .i64 high] 198) = wb at hS hB ⊢
  have hbx := Now.blk (pre := []) hS
  have hcb := hc.below hB hc.lt
  have hcell : ∀ v, Newer wb.drew v → v.cell? ⟨w.heap.size, 0, none⟩ = some (.func (.func 130) #[] #[]) ∧ v.cell? ⟨w.heap.size, 1, none⟩ = some (.int .i64 low) ∧ v.cell? ⟨w.heap.size, 2, none⟩ = some (.int .i64 high) ∧ v.cell? ⟨p, 0, none⟩ = some (.int .i64 c.segs) ∧ v.cell? ⟨p, 1, none⟩ = some (.int .i64 c.slots) ∧ v.cell? ⟨p, 2, none⟩ = some (.float .f64 c.share) ∧ v.cell? ⟨p, 3, none⟩ = some (.int .i64 c.rate) := fun v hv => by
    have h1 := hbx.below hv.undrew hbx.lt
    have h2 := hcb.below hv.undrew hcb.lt
    exact ⟨h1.cell 0, h1.cell 1, h1.cell 2, h2.cell 0, h2.cell 1, h2.cell 2, h2.cell 3⟩
  clear hbx hcb hS
  by_cases h : c.slots < low
  ·
    refine wp_region_ord Newer.grow [(0, true), (1, true), (2, true), (3, true), (4, true), (5, true), (6, true), (7, true), (8, true), (9, true), (10, true), (11, true), (12, true), (13, true), (14, true), (15, true), (16, true)] [] (by kernel_rfl) (by kernel_rfl) rfl (by kernel_rfl) (by intro _ _ d _ _ h; cases d <;> exact h) ?_
    iterate 17
      (apply wpOrd_take
       · exact rfl
       · intro w1 h1
         (obtain ⟨b0, b1, b2, c0, c1, c2, c3⟩ := hcell w1 h1)
         go_simp
         first
           | with_reducible exact ⟨rfl, Newer.grow.refl _⟩
           | with_reducible exact Conf3_any c _ | with_reducible exact rfl
       simp only [Act.put, List.setIfInBounds_toArray, List.set_cons_zero, List.set_cons_succ])
    refine wpOrd_done fun w3 h3 => ?_
    go_wp2_with fail
    go_ret
    exact ⟨by rw [decide_eq_true h]; rfl, hB.trans h3.undrew⟩
  ·
    refine wp_region_ord Newer.grow [(0, true), (1, true), (2, true), (3, true), (4, true), (5, true), (6, true), (7, true), (8, true), (9, true), (10, true), (11, true), (12, true), (13, true), (14, true), (15, true), (16, true)] [] (by kernel_rfl) (by kernel_rfl) rfl (by kernel_rfl) (by intro _ _ d _ _ h; cases d <;> exact h) ?_
    iterate 17
      (apply wpOrd_take
       · exact rfl
       · intro w1 h1
         (obtain ⟨b0, b1, b2, c0, c1, c2, c3⟩ := hcell w1 h1)
         go_simp
         first
           | with_reducible exact ⟨rfl, Newer.grow.refl _⟩
           | with_reducible exact Conf3_any c _ | with_reducible exact rfl
       simp only [Act.put, List.setIfInBounds_toArray, List.set_cons_zero, List.set_cons_succ])
    refine wpOrd_done fun w3 h3 => ?_
    go_wp2_with fail
    go_ret
    exact ⟨by rw [show decide (c.slots < low) = false from decide_eq_false (by omega)]; rfl, hB.trans h3.undrew⟩
set_option maxHeartbeats 4000000 in
theorem Conf1_c (c : Cnf) (low high : Int) (p : Nat) (w : World) (hc : Blk w p 24 c.cells) :
    Calls Tryz.prog 128 #[.agg #[.func (.func 131) #[] #[], .int .i64 low, .int .i64 high], .pointer (some ⟨p, 0, none⟩)] w fun e w' => e = .returned (.bool (decide (c.rate < low) || decide (high < c.rate))) ∧ Newer w w' := by
  have hS := Now.pushCells (Sep.start w) 198 #[.func (.func 131) #[] #[], .int .i64 low, .int .i64 high]
  have hB : Newer w (w.alloc (.cells #[.func (.func 131) #[] #[], .int .i64 low, .int .i64 high] 198)) := (Newer.refl w).alloc _
  go_enter Tryz.func128, Tryz.ntmps128
  go_wp2_with fail
  generalize w.alloc (.cells #[.func (.func 131) #[] #[], .int .i64 low, .int .i64 high] 198) = wb at hS hB ⊢
  have hbx := Now.blk (pre := []) hS
  have hcb := hc.below hB hc.lt
  have hcell : ∀ v, Newer wb.drew v → v.cell? ⟨w.heap.size, 0, none⟩ = some (.func (.func 131) #[] #[]) ∧ v.cell? ⟨w.heap.size, 1, none⟩ = some (.int .i64 low) ∧ v.cell? ⟨w.heap.size, 2, none⟩ = some (.int .i64 high) ∧ v.cell? ⟨p, 0, none⟩ = some (.int .i64 c.segs) ∧ v.cell? ⟨p, 1, none⟩ = some (.int .i64 c.slots) ∧ v.cell? ⟨p, 2, none⟩ = some (.float .f64 c.share) ∧ v.cell? ⟨p, 3, none⟩ = some (.int .i64 c.rate) := fun v hv => by
    have h1 := hbx.below hv.undrew hbx.lt
    have h2 := hcb.below hv.undrew hcb.lt
    exact ⟨h1.cell 0, h1.cell 1, h1.cell 2, h2.cell 0, h2.cell 1, h2.cell 2, h2.cell 3⟩
  clear hbx hcb hS
  by_cases h : c.rate < low
  ·
    refine wp_region_ord Newer.grow [(0, true), (1, true), (2, true), (3, true), (4, true), (5, true), (6, true), (7, true), (8, true), (9, true), (10, true), (11, true), (12, true), (13, true), (14, true), (15, true), (16, true)] [] (by kernel_rfl) (by kernel_rfl) rfl (by kernel_rfl) (by intro _ _ d _ _ h; cases d <;> exact h) ?_
    iterate 17
      (apply wpOrd_take
       · exact rfl
       · intro w1 h1
         (obtain ⟨b0, b1, b2, c0, c1, c2, c3⟩ := hcell w1 h1)
         go_simp
         first
           | with_reducible exact ⟨rfl, Newer.grow.refl _⟩
           | with_reducible exact Conf4_any c _ | with_reducible exact rfl
       simp only [Act.put, List.setIfInBounds_toArray, List.set_cons_zero, List.set_cons_succ])
    refine wpOrd_done fun w3 h3 => ?_
    go_wp2_with fail
    go_ret
    exact ⟨by rw [decide_eq_true h]; rfl, hB.trans h3.undrew⟩
  ·
    refine wp_region_ord Newer.grow [(0, true), (1, true), (2, true), (3, true), (4, true), (5, true), (6, true), (7, true), (8, true), (9, true), (10, true), (11, true), (12, true), (13, true), (14, true), (15, true), (16, true)] [] (by kernel_rfl) (by kernel_rfl) rfl (by kernel_rfl) (by intro _ _ d _ _ h; cases d <;> exact h) ?_
    iterate 17
      (apply wpOrd_take
       · exact rfl
       · intro w1 h1
         (obtain ⟨b0, b1, b2, c0, c1, c2, c3⟩ := hcell w1 h1)
         go_simp
         first
           | with_reducible exact ⟨rfl, Newer.grow.refl _⟩
           | with_reducible exact Conf4_any c _ | with_reducible exact rfl
       simp only [Act.put, List.setIfInBounds_toArray, List.set_cons_zero, List.set_cons_succ])
    refine wpOrd_done fun w3 h3 => ?_
    go_wp2_with fail
    go_ret
    exact ⟨by rw [show decide (c.rate < low) = false from decide_eq_false (by omega)]; rfl, hB.trans h3.undrew⟩
end Go.Proofs.YthlbciinpidedaaGreat
