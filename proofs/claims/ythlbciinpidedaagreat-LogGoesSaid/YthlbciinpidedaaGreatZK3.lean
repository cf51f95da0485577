/- What the laws of this seat lean on, part 3. -/
import Derived.Test.YthlbciinpidedaaGreatZK2
import Derived.Test.YthlbciinpidedaaGreatZK1
import Derived.Test.YthlbciinpidedaaGreatProg
import Derived.WalkKit
import Derived.Lib.Hide
/- crc: a text's sum, and the document's. -/
namespace Go.Proofs.YthlbciinpidedaaGreat
set_option linter.unusedSimpArgs false
set_option linter.unusedVariables false
set_option maxRecDepth 100000
open Go.RowKit
attribute [local go_sem high] run_mx run_mn

def nextC (r : Nat) (c : UInt8) : Nat := tabC ((r % 256) ^^^ c.toNat) ^^^ (r / 256)
def moreC (r : Nat) (l : List UInt8) : Nat := l.foldl nextC r
/-- A text's sum. -/
def crcOf (l : List UInt8) : Nat := moreC 4294967295 l ^^^ 4294967295
theorem tabC_lt {i : Nat} (h : i < 4294967296) : tabC i < 4294967296 := stepsC_lt 8 h
theorem xor_lt8 {a b : Nat} (ha : a < 256) (hb : b < 256) : a ^^^ b < 256 := Nat.xor_lt_two_pow (n := 8) ha hb
theorem xor_lt32 {a b : Nat} (ha : a < 4294967296) (hb : b < 4294967296) : a ^^^ b < 4294967296 := Nat.xor_lt_two_pow (n := 32) ha hb
theorem nextC_lt {r : Nat} (h : r < 4294967296) (c : UInt8) : nextC r c < 4294967296 := by
  have hc := c.toNat_lt
  unfold nextC
  refine xor_lt32 (tabC_lt ?_) (by omega)
  have := xor_lt8 (a := r % 256) (b := c.toNat) (by omega) (by omega)
  omega
theorem moreC_lt (l : List UInt8) : ∀ {r : Nat}, r < 4294967296 → moreC r l < 4294967296 := by
  induction l with
  | nil => intro r h; exact h
  | cons c l ih => intro r h; exact ih (nextC_lt h c)
theorem moreC_succ (l : List UInt8) (r k : Nat) (hk : k < l.length) : moreC r (l.take (k + 1)) = nextC (moreC r (l.take k)) l[k] := by
  rw [List.take_succ_eq_append_getElem hk]
  unfold moreC
  rw [List.foldl_append]; rfl
theorem crcOf_lt (l : List UInt8) : crcOf l < 4294967296 := xor_lt32 (moreC_lt l (by omega)) (by omega)

set_option maxRecDepth 100000 in
set_option maxHeartbeats 4000000 in
theorem More_any (s : ByteArray) (hs : s.size ≤ 9223372036854775807) (w : World) :
    Calls Tryz.prog 147 #[.int .u32 0, .string s] w fun e w' => e = .returned (.int .u32 (crcOf s.data.toList)) ∧ Below w.heap.size w w' := by
  obtain ⟨hz, hi⟩ := zero_of_info zero256
  have hsc : ∀ w : World, (storeCells ⟨w.heap.size, 0, none⟩ (crcCells 256).toList).run Tryz.prog (w.alloc (.cells (crcCells 0) 229)) = .ok () (w.alloc (.cells (crcCells 256) 229)) := fun w =>
    run_storeCells_new w _ _ _ (by rw [crcCells_size]; exact hi) (by rw [crcCells_size, crcCells_size]) (by unfold crcCells; simp [crcTabAt, Value.oneCell'])
  have hs0 := crcCells_size 0
  have hs1 := crcCells_size 256
  have hsg : IntKind.u32.signed = false := rfl
  have hmax : bits BinOp.xor IntKind.u32 IntKind.u32.max 0 = ((4294967295 : Nat) : Int) := by decide +kernel
  have hfin : ∀ r : Nat, r < 4294967296 → bits BinOp.xor IntKind.u32 IntKind.u32.max (r : Int) = ((r ^^^ 4294967295 : Nat) : Int) := fun r hr => by
    rw [Nat.xor_comm]; exact u32_xor_nat 4294967295 r (by omega) hr
  go_enter Tryz.func147, Tryz.ntmps147
  generalize hT0 : crcCells 0 = T0 at *
  generalize hT1 : crcCells 256 = T1 at *
  go_wp2_with (first | (go_at_call 158; refine (rests_any _).mono ?_; rw [hT1]; rintro e w' ⟨rfl, hB⟩))
  have hb : Blk (w'.alloc (.cells T1 229)) w'.heap.size 229 T1 := Blk.new _ _ _
  have hB2 := hB.alloc hB.size (.cells T1 229)
  generalize w'.alloc (.cells T1 229) = w2 at *
  have hl : s.data.toList.length = s.size := by rw [Array.length_toList]; rfl
  clear hsc hz hB
  go_loop [6, 13] (fun r i => ∃ j : Nat, j ≤ s.size ∧ i = .int .i64 j ∧ r = .int .u32 (moreC 4294967295 (s.data.toList.take j))) (fun _ i => s.size - (intOf i).toNat)
  case atStart => exact ⟨0, by omega, rfl, rfl⟩
  case round =>
    obtain ⟨j, hj, rfl, rfl⟩ := hrel
    by_cases hlt : j < s.size
    · have hrl := moreC_lt (s.data.toList.take j) (r := 4294967295) (by omega)
      have hst := moreC_succ s.data.toList 4294967295 j (by omega)
      generalize moreC 4294967295 (s.data.toList.take j) = r at *
      have hlt' : (j : Int) < (s.size : Int) := by omega
      have hsj : s[j] = s.data.toList[j]'(by omega) := rfl
      have hx := (s.data.toList[j]'(by omega)).toNat_lt
      unfold nextC at hst
      generalize s.data.toList[j]'(by omega) = x at *
      have q1 : bits BinOp.xor IntKind.u8 ((r : Int) % 256) (x.toNat : Int) = (((r % 256) ^^^ x.toNat : Nat) : Int) := u8_xor_nat (r % 256) x.toNat (by omega) (by omega)
      have hq := xor_lt8 (a := r % 256) (b := x.toNat) (by omega) (by omega)
      generalize (r % 256) ^^^ x.toNat = q at *
      have c1 : w2.cell? ⟨w'.heap.size, q, none⟩ = some (.int .u32 (tabC q : Int)) := by
        rw [hb.cell, ← hT1, crcCells_at 256 q hq]; unfold crcTabAt; rw [if_pos hq]
      have ht := tabC_lt (i := q) (by omega)
      have q2 : bits BinOp.xor IntKind.u32 (tabC q : Int) ((r : Int) / 256) = ((tabC q ^^^ (r / 256) : Nat) : Int) := u32_xor_nat (tabC q) (r / 256) ht (by omega)
      have HS := Lib.hid hst
      clear hst hfin hmax
      go_wp2_with fail
      go_round
      case rel => exact ⟨j + 1, by omega, by go_num, by rw [HS.out]⟩
      case measure => simp [intOf]; omega
    · obtain rfl : j = s.size := by omega
      have hrl := moreC_lt s.data.toList (r := 4294967295) (by omega)
      have e := hfin _ hrl
      have ht : s.data.toList.take s.size = s.data.toList := List.take_of_length_le (by omega)
      rw [← ht] at e
      go_wp2_with fail
      go_ret
      exact ⟨rfl, hB2⟩
theorem Sum_any (s : ByteArray) (hs : s.size ≤ 9223372036854775807) (w : World) :
    Calls Tryz.prog 127 #[.string s] w fun e w' => e = .returned (.int .u32 (crcOf s.data.toList)) ∧ Below w.heap.size w w' := by
  go_enter Tryz.func127, Tryz.ntmps127
  go_wp2_with (first | (go_at_call 147; refine (More_any s hs _).mono ?_; rintro e w' ⟨rfl, hB⟩))
  go_ret
  exact ⟨rfl, hB⟩

theorem stepC_xor (a b : Nat) : stepC (a ^^^ b) = stepC a ^^^ stepC b := by
  have h1 : (a ^^^ b) / 2 = a / 2 ^^^ b / 2 := Nat.xor_div_two
  have h2 : (a ^^^ b) % 2 = (a % 2) ^^^ (b % 2) := Nat.xor_mod_two_pow (n := 1)
  unfold stepC
  rw [h1, h2]
  rcases Nat.mod_two_eq_zero_or_one a with ha | ha <;> rcases Nat.mod_two_eq_zero_or_one b with hb | hb
  · rw [ha, hb]; simp
  · rw [ha, hb]; simp [Nat.xor_assoc]
  · rw [ha, hb]; simp [Nat.xor_assoc]
    rw [Nat.xor_comm (b / 2) 3988292384]
  · rw [ha, hb]
    simp only [Nat.xor_self, Nat.zero_ne_one, if_false, if_true]
    rw [Nat.xor_assoc, ← Nat.xor_assoc 3988292384, Nat.xor_comm 3988292384 (b / 2), Nat.xor_assoc (b / 2), Nat.xor_self, Nat.xor_zero]
theorem stepsC_xor (k a b : Nat) : stepsC k (a ^^^ b) = stepsC k a ^^^ stepsC k b := by
  induction k with
  | zero => rfl
  | succ k ih => show stepC (stepsC k (a ^^^ b)) = _; rw [ih, stepC_xor]; rfl
theorem stepsC_pow (k h : Nat) : stepsC k (2 ^ k * h) = h := by
  have key : ∀ k h, stepsC k (2 ^ k * h) = h := by
    intro k
    induction k with
    | zero => intro h; show 1 * h = h; omega
    | succ k ih =>
      intro h
      show stepC (stepsC k (2 ^ (k + 1) * h)) = h
      rw [Nat.pow_succ, Nat.mul_assoc, ih]
      unfold stepC
      rw [if_neg (by omega)]; omega
  exact key k h
theorem split256 (r : Nat) : r = (r % 256) ^^^ (256 * (r / 256)) := by
  apply Nat.eq_of_testBit_eq
  intro i
  rw [Nat.testBit_xor, show (256 : Nat) = 2 ^ 8 from rfl, Nat.testBit_mod_two_pow, Nat.testBit_two_pow_mul, Nat.testBit_div_two_pow]
  by_cases hi : i < 8
  · simp [hi, show ¬ 8 ≤ i by omega]
  · rw [show i - 8 + 8 = i by omega]
    simp [hi, show 8 ≤ i by omega]
theorem one_next (r : Nat) (c : UInt8) : stepsC 8 (r ^^^ c.toNat) = nextC r c := by
  have e : r ^^^ c.toNat = ((r % 256) ^^^ c.toNat) ^^^ (2 ^ 8 * (r / 256)) := by
    conv => lhs; rw [split256 r]
    rw [Nat.xor_assoc, Nat.xor_comm (256 * (r / 256)), ← Nat.xor_assoc]
  rw [e, stepsC_xor, stepsC_pow]; rfl

set_option maxRecDepth 100000 in
set_option maxHeartbeats 4000000 in
theorem one_any (r : Nat) (c : UInt8) (hr : r < 4294967296) (w : World) :
    Calls Tryz.prog 164 #[.int .u32 r, .int .u8 c.toNat] w fun e w' => e = .returned (.int .u32 (nextC r c)) ∧ w = w' := by
  have hc := c.toNat_lt
  have hx : bits BinOp.xor IntKind.u32 (r : Int) (c.toNat : Int) = ((r ^^^ c.toNat : Nat) : Int) := u32_xor_nat r c.toNat hr (by omega)
  have hxl := xor_lt32 (a := r) (b := c.toNat) hr (by omega)
  have hfin := Lib.hid (one_next r c)
  generalize r ^^^ c.toNat = a at *
  go_enter Tryz.func164, Tryz.ntmps164
  go_wp2_with fail
  go_loop [0, 5] (fun r i => ∃ m : Nat, m ≤ 8 ∧ i = .int .i64 m ∧ r = .int .u32 (stepsC m a)) (fun _ i => 8 - (intOf i).toNat)
  case atStart => exact ⟨0, by omega, rfl, rfl⟩
  case round =>
    clear hx
    obtain ⟨m, hm, rfl, rfl⟩ := hrel
    by_cases hlm : m < 8
    · have hrl := stepsC_lt m (r := a) hxl
      have hst : stepsC (m + 1) a = stepC (stepsC m a) := rfl
      generalize stepsC m a = r at *
      by_cases hodd : r % 2 = 1
      · have hx := u32_xor_nat (r / 2) 3988292384 (by omega) (by omega)
        have hst2 : stepsC (m + 1) a = (r / 2) ^^^ 3988292384 := by rw [hst]; exact if_pos hodd
        have HS := Lib.hid hst2
        have ho1 : (r : Int) % 2 = 1 := by omega
        clear hst hst2 hodd
        have hx : bits BinOp.xor IntKind.u32 ((r : Int) / 2) 3988292384 = ((r / 2 ^^^ 3988292384 : Nat) : Int) := hx
        go_wp2_with fail
        go_round
        case rel => exact ⟨m + 1, by omega, by go_num, by rw [HS.out]⟩
        case measure => simp [intOf]; omega
      · have hev : r % 2 = 0 := by omega
        have hst2 : stepsC (m + 1) a = r / 2 := by rw [hst]; exact if_neg hodd
        have HS := Lib.hid hst2
        have ho1 : (r : Int) % 2 = 0 := by omega
        clear hst hst2 hodd hev
        go_wp2_with fail
        go_round
        case rel => exact ⟨m + 1, by omega, by go_num, by rw [HS.out]; rfl⟩
        case measure => simp [intOf]; omega
    · obtain rfl : m = 8 := by omega
      go_wp2_with fail
      go_ret
      exact ⟨by rw [← hfin.out]; rfl, rfl⟩

set_option maxRecDepth 100000 in
set_option maxHeartbeats 4000000 in
theorem RMore_any (s : ByteArray) (hs : s.size ≤ 9223372036854775807) (w : World) :
    Calls Tryz.prog 152 #[.int .u32 0, .string s] w fun e w' => e = .returned (.int .u32 (crcOf s.data.toList)) ∧ w = w' := by
  have hmax : bits BinOp.xor IntKind.u32 0 4294967295 = ((4294967295 : Nat) : Int) := by decide +kernel
  have hfin : ∀ r : Nat, r < 4294967296 → bits BinOp.xor IntKind.u32 (r : Int) 4294967295 = ((r ^^^ 4294967295 : Nat) : Int) := fun r hr => u32_xor_nat r 4294967295 hr (by omega)
  have hl : s.data.toList.length = s.size := by rw [Array.length_toList]; rfl
  go_enter Tryz.func152, Tryz.ntmps152
  go_wp2_with fail
  go_loop [5, 6] (fun r i => ∃ j : Nat, j ≤ s.size ∧ i = .int .i64 j ∧ r = .int .u32 (moreC 4294967295 (s.data.toList.take j))) (fun _ i => s.size - (intOf i).toNat)
  case atStart => exact ⟨0, by omega, rfl, rfl⟩
  case round =>
    obtain ⟨j, hj, rfl, rfl⟩ := hrel
    by_cases hlt : j < s.size
    · have hrl := moreC_lt (s.data.toList.take j) (r := 4294967295) (by omega)
      have hst := moreC_succ s.data.toList 4294967295 j (by omega)
      generalize moreC 4294967295 (s.data.toList.take j) = r at *
      have hlt' : (j : Int) < (s.size : Int) := by omega
      have hsj : s[j] = s.data.toList[j]'(by omega) := rfl
      generalize s.data.toList[j]'(by omega) = x at *
      have HS := Lib.hid hst
      clear hst hfin hmax
      go_wp2_with (first | (go_at_call 164; refine (one_any r x hrl _).mono ?_; rintro e w' ⟨rfl, rfl⟩))
      go_round
      case rel => exact ⟨j + 1, by omega, by go_num, by rw [HS.out]⟩
      case measure => simp [intOf]; omega
    · obtain rfl : j = s.size := by omega
      have hrl := moreC_lt s.data.toList (r := 4294967295) (by omega)
      have e := hfin _ hrl
      have ht : s.data.toList.take s.size = s.data.toList := List.take_of_length_le (by omega)
      rw [← ht] at e
      go_wp2_with fail
      go_ret
      exact ⟨rfl, rfl⟩
theorem RSum_any (s : ByteArray) (hs : s.size ≤ 9223372036854775807) (w : World) :
    Calls Tryz.prog 137 #[.string s] w fun e w' => e = .returned (.int .u32 (crcOf s.data.toList)) ∧ w = w' := by
  go_enter Tryz.func137, Tryz.ntmps137
  go_wp2_with (first | (go_at_call 152; refine (RMore_any s hs _).mono ?_; rintro e w' ⟨rfl, rfl⟩))
  go_ret
  exact ⟨rfl, rfl⟩
end Go.Proofs.YthlbciinpidedaaGreat
/- check.ID and check.Value, and the document's. -/
namespace Go.Proofs.YthlbciinpidedaaGreat
set_option linter.unusedSimpArgs false
set_option linter.unusedVariables false
set_option maxRecDepth 100000
open Go.RowKit
attribute [local go_sem high] run_mx run_mn

/-- May a byte stand in an id? -/
def okByte (c : UInt8) : Bool := decide (97 ≤ c.toNat ∧ c.toNat ≤ 122) || decide (48 ≤ c.toNat ∧ c.toNat ≤ 57) || decide (c.toNat = 45)
def okID (l : List UInt8) : Bool := l.all okByte && decide (1 ≤ l.length ∧ l.length ≤ 16)
def okValue (l : List UInt8) : Bool := decide (l.length ≤ 64)
theorem okByte_iff (c : UInt8) : okByte c = true ↔ (97 ≤ c.toNat ∧ c.toNat ≤ 122) ∨ (48 ≤ c.toNat ∧ c.toNat ≤ 57) ∨ c.toNat = 45 := by unfold okByte; simp [or_assoc]

theorem Value_any (s : ByteArray) (w : World) : Calls Tryz.prog 102 #[.string s] w fun e w' => e = .returned (.bool (okValue s.data.toList)) ∧ w = w' := by
  have hl : s.data.toList.length = s.size := by rw [Array.length_toList]; rfl
  have e : okValue s.data.toList = decide ((s.size : Int) ≤ 64) := by unfold okValue; rw [hl]; simp; omega
  rw [e]
  go_enter Tryz.func102, Tryz.ntmps102
  go_wp2_with fail
  go_ret
  exact ⟨rfl, rfl⟩
theorem RValue_any (s : ByteArray) (w : World) : Calls Tryz.prog 79 #[.string s] w fun e w' => e = .returned (.bool (okValue s.data.toList)) ∧ w = w' := by
  have hl : s.data.toList.length = s.size := by rw [Array.length_toList]; rfl
  have e : okValue s.data.toList = decide ((s.size : Int) ≤ 64) := by unfold okValue; rw [hl]; simp; omega
  rw [e]
  go_enter Tryz.func79, Tryz.ntmps79
  go_wp2_with fail
  go_ret
  exact ⟨rfl, rfl⟩

set_option maxRecDepth 100000 in
set_option maxHeartbeats 4000000 in
theorem ID_any (s : ByteArray) (hs : s.size ≤ 9223372036854775807) (w : World) : Calls Tryz.prog 101 #[.string s] w fun e w' => e = .returned (.bool (okID s.data.toList)) ∧ w = w' := by
  have hl : s.data.toList.length = s.size := by rw [Array.length_toList]; rfl
  go_enter Tryz.func101, Tryz.ntmps101
  go_wp2_with fail
  go_loop [7] (fun i => ∃ j : Nat, j ≤ s.size ∧ i = .int .i64 j ∧ (s.data.toList.take j).all okByte = true) (fun i => s.size - (intOf i).toNat)
  case atStart => exact ⟨0, by omega, rfl, rfl⟩
  case round =>
    obtain ⟨j, hj, rfl, hall⟩ := hrel
    by_cases hlt : j < s.size
    · have hlt' : (j : Int) < (s.size : Int) := by omega
      have hsj : s[j] = s.data.toList[j]'(by omega) := rfl
      have htk : s.data.toList.take (j + 1) = s.data.toList.take j ++ [s.data.toList[j]'(by omega)] := List.take_succ_eq_append_getElem (by omega)
      have hmem : s.data.toList[j]'(by omega) ∈ s.data.toList := List.getElem_mem _
      have hx := (s.data.toList[j]'(by omega)).toNat_lt
      generalize s.data.toList[j]'(by omega) = x at *
      by_cases hok : okByte x = true
      · have hall2 : (s.data.toList.take (j + 1)).all okByte = true := by rw [htk, List.all_append, hall]; simp [hok]
        have HA := Lib.hid hall2
        have hcs := (okByte_iff x).1 hok
        clear hall hall2 htk hok hmem
        rcases hcs with ⟨h1, h2⟩ | ⟨h1, h2⟩ | h1
        all_goals
          go_wp2_with fail
          go_round
          case rel => exact ⟨j + 1, by omega, by go_num, HA.out⟩
          case measure => simp [intOf]; omega
      · have hf : okID s.data.toList = false := by
          unfold okID
          have : s.data.toList.all okByte = false := by
            rw [List.all_eq_false]; exact ⟨x, hmem, by simpa using hok⟩
          rw [this]; rfl
        have hcs : x.toNat < 45 ∨ (45 < x.toNat ∧ x.toNat < 48) ∨ (57 < x.toNat ∧ x.toNat < 97) ∨ 122 < x.toNat := by
          have := mt (okByte_iff x).2 hok
          omega
        have HF := Lib.hid hf
        clear hall htk hok hmem hf
        have hne : ((x.toNat : Int) != 45) = true := by simp; omega
        have hne' : ((x.toNat : Int) == 45) = false := by simp; omega
        rcases hcs with h1 | ⟨h1, h2⟩ | ⟨h1, h2⟩ | h1
        · have i1 : (x.toNat : Int) < 48 := by omega
          have i2 : (x.toNat : Int) < 97 := by omega
          go_wp2_with fail
          go_ret
          exact ⟨by rw [HF.out]; rfl, rfl⟩
        · have i1 : (x.toNat : Int) < 48 := by omega
          have i2 : (x.toNat : Int) < 97 := by omega
          go_wp2_with fail
          go_ret
          exact ⟨by rw [HF.out]; rfl, rfl⟩
        · have i1 : (57 : Int) < x.toNat := by omega
          have i2 : (x.toNat : Int) < 97 := by omega
          have i3 : (x.toNat : Int) < 48 ∨ (57 : Int) < x.toNat := .inr i1
          have i4 : decide ((57 : Int) < x.toNat) = true := decide_eq_true i1
          go_wp2_with fail
          all_goals first
            | (go_ret; exact ⟨by rw [HF.out]; rfl, rfl⟩)
            | (exfalso; simp_all; omega)
        · have i1 : (122 : Int) < x.toNat := by omega
          have i4 : (57 : Int) < x.toNat := by omega
          go_wp2_with fail
          all_goals first
            | (go_ret; exact ⟨by rw [HF.out]; rfl, rfl⟩)
            | (exfalso; simp_all; omega)
    · obtain rfl : j = s.size := by omega
      have hall2 : s.data.toList.all okByte = true := by rwa [List.take_of_length_le (by omega)] at hall
      have e : okID s.data.toList = decide (1 ≤ s.size ∧ s.size ≤ 16) := by unfold okID; rw [hall2, hl]; rfl
      have HE := Lib.hid e
      clear e hall hall2
      by_cases h0 : s.size = 0
      · obtain rfl : s = ⟨#[]⟩ := ByteArray.ext (Array.eq_empty_of_size_eq_zero h0)
        go_wp2_with fail
        go_ret
        exact ⟨by rw [HE.out]; rfl, rfl⟩
      · have h0' : 1 ≤ (s.size : Int) := by omega
        have hnil : ¬ s.toList = [] := by rw [ByteArray.toList_eq]; intro e; rw [e] at hl; simp at hl; omega
        have hemp : s.toList.isEmpty = false := by cases h : s.toList with | nil => exact absurd h hnil | cons a l => rfl
        by_cases h16 : (s.size : Int) ≤ 16
        · have hd : decide (1 ≤ s.size ∧ s.size ≤ 16) = true := decide_eq_true (by omega)
          go_wp2_with fail
          go_ret
          exact ⟨by rw [HE.out, hd]; rfl, rfl⟩
        · have hd : decide (1 ≤ s.size ∧ s.size ≤ 16) = false := decide_eq_false (by omega)
          go_wp2_with fail
          go_ret
          exact ⟨by rw [HE.out, hd]; rfl, rfl⟩

set_option maxRecDepth 100000 in
set_option maxHeartbeats 4000000 in
theorem RID_any (s : ByteArray) (hs : s.size ≤ 9223372036854775807) (w : World) : Calls Tryz.prog 78 #[.string s] w fun e w' => e = .returned (.bool (okID s.data.toList)) ∧ w = w' := by
  have hl : s.data.toList.length = s.size := by rw [Array.length_toList]; rfl
  go_enter Tryz.func78, Tryz.ntmps78
  go_wp2_with fail
  go_loop [3] (fun i => ∃ j : Nat, j ≤ s.size ∧ i = .int .i64 j ∧ (s.data.toList.take j).all okByte = true) (fun i => s.size - (intOf i).toNat)
  case atStart => exact ⟨0, by omega, rfl, rfl⟩
  case round =>
    obtain ⟨j, hj, rfl, hall⟩ := hrel
    by_cases hlt : j < s.size
    · have hlt' : (j : Int) < (s.size : Int) := by omega
      have hsj : s[j] = s.data.toList[j]'(by omega) := rfl
      have htk : s.data.toList.take (j + 1) = s.data.toList.take j ++ [s.data.toList[j]'(by omega)] := List.take_succ_eq_append_getElem (by omega)
      have hmem : s.data.toList[j]'(by omega) ∈ s.data.toList := List.getElem_mem _
      have hx := (s.data.toList[j]'(by omega)).toNat_lt
      generalize s.data.toList[j]'(by omega) = x at *
      by_cases hok : okByte x = true
      · have hall2 : (s.data.toList.take (j + 1)).all okByte = true := by rw [htk, List.all_append, hall]; simp [hok]
        have HA := Lib.hid hall2
        have hcs := (okByte_iff x).1 hok
        clear hall hall2 htk hok hmem
        rcases hcs with ⟨h1, h2⟩ | ⟨h1, h2⟩ | h1
        all_goals
          go_wp2_with fail
          go_round
          case rel => exact ⟨j + 1, by omega, by go_num, HA.out⟩
          case measure => simp [intOf]; omega
      · have hf : okID s.data.toList = false := by
          unfold okID
          have : s.data.toList.all okByte = false := by
            rw [List.all_eq_false]; exact ⟨x, hmem, by simpa using hok⟩
          rw [this]; rfl
        have hcs : x.toNat < 45 ∨ (45 < x.toNat ∧ x.toNat < 48) ∨ (57 < x.toNat ∧ x.toNat < 97) ∨ 122 < x.toNat := by
          have := mt (okByte_iff x).2 hok
          omega
        have HF := Lib.hid hf
        clear hall htk hok hmem hf
        have hne : ((x.toNat : Int) != 45) = true := by simp; omega
        have hne' : ((x.toNat : Int) == 45) = false := by simp; omega
        rcases hcs with h1 | ⟨h1, h2⟩ | ⟨h1, h2⟩ | h1
        · have i1 : (x.toNat : Int) < 48 := by omega
          have i2 : (x.toNat : Int) < 97 := by omega
          go_wp2_with fail
          go_ret
          exact ⟨by rw [HF.out]; rfl, rfl⟩
        · have i1 : (x.toNat : Int) < 48 := by omega
          have i2 : (x.toNat : Int) < 97 := by omega
          go_wp2_with fail
          go_ret
          exact ⟨by rw [HF.out]; rfl, rfl⟩
        · have i1 : (57 : Int) < x.toNat := by omega
          have i2 : (x.toNat : Int) < 97 := by omega
          have i3 : (x.toNat : Int) < 48 ∨ (57 : Int) < x.toNat := .inr i1
          have i4 : decide ((57 : Int) < x.toNat) = true := decide_eq_true i1
          go_wp2_with fail
          all_goals first
            | (go_ret; exact ⟨by rw [HF.out]; rfl, rfl⟩)
            | (exfalso; simp_all; omega)
        · have i1 : (122 : Int) < x.toNat := by omega
          have i4 : (57 : Int) < x.toNat := by omega
          go_wp2_with fail
          all_goals first
            | (go_ret; exact ⟨by rw [HF.out]; rfl, rfl⟩)
            | (exfalso; simp_all; omega)
    · obtain rfl : j = s.size := by omega
      have hall2 : s.data.toList.all okByte = true := by rwa [List.take_of_length_le (by omega)] at hall
      have e : okID s.data.toList = decide (1 ≤ s.size ∧ s.size ≤ 16) := by unfold okID; rw [hall2, hl]; rfl
      have HE := Lib.hid e
      clear e hall hall2
      by_cases h0 : ¬ 1 ≤ (s.size : Int)
      · have h0' : ¬ 1 ≤ s.size := by omega
        go_wp2_with fail
        go_ret
        exact ⟨by rw [HE.out]; simp; omega, rfl⟩
      · have h0' : 1 ≤ (s.size : Int) := by omega
        by_cases h16 : (s.size : Int) ≤ 16
        · have hd : decide (1 ≤ s.size ∧ s.size ≤ 16) = true := decide_eq_true (by omega)
          go_wp2_with fail
          go_ret
          exact ⟨by rw [HE.out, hd]; rfl, rfl⟩
        · have hd : decide (1 ≤ s.size ∧ s.size ≤ 16) = false := decide_eq_false (by omega)
          go_wp2_with fail
          go_ret
          exact ⟨by rw [HE.out, hd]; rfl, rfl⟩
end Go.Proofs.YthlbciinpidedaaGreat
