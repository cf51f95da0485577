/- word.Put and word.Get, and the document's. -/
import Derived.Test.YtoofmklghllliaaBytes
import Derived.Test.YtoofmklghllliaaProg
import Derived.WalkKit
import Derived.Lib.Hide
import Derived.Laws.BitsAllLaws
namespace Go.Proofs.Ytoofmklghllliaa
open Go.RowKit
attribute [local go_sem high] run_mx run_mn

/-- Byte j of a number. -/
def nbyte (n : Int) (j : Nat) : Int := n / 2 ^ (8 * j) % 256
def putAt (n : Int) (k j : Nat) : Value := .int .u8 (if j < k then nbyte n j else 0)
/-- The eight bytes, of which the first k are laid. -/
def putCells (n : Int) (k : Nat) : Array Value := #[putAt n k 0, putAt n k 1, putAt n k 2, putAt n k 3, putAt n k 4, putAt n k 5, putAt n k 6, putAt n k 7]
theorem putCells_at (n : Int) (k j : Nat) (hj : j < 8) : (putCells n k)[j]? = some (putAt n k j) := by
  match j, hj with
  | 0, _ => rfl
  | 1, _ => rfl
  | 2, _ => rfl
  | 3, _ => rfl
  | 4, _ => rfl
  | 5, _ => rfl
  | 6, _ => rfl
  | 7, _ => rfl
theorem putCells_set (n : Int) (k : Nat) (_hk : k < 8) : (putCells n k).setIfInBounds k (.int .u8 (nbyte n k)) = putCells n (k + 1) := by
  apply Array.ext_getElem?
  intro j
  rw [Array.getElem?_setIfInBounds]
  by_cases hj : j < 8
  · rw [putCells_at n (k + 1) j hj, putCells_at n k j hj]
    by_cases e : k = j
    · rw [if_pos e, if_pos (show k < (putCells n k).size from _hk)]
      subst e
      unfold putAt; rw [if_pos (by omega)]
    · rw [if_neg e]
      unfold putAt
      by_cases h : j < k
      · rw [if_pos h, if_pos (by omega)]
      · rw [if_neg h, if_neg (by omega)]
  · rw [if_neg (by omega), Array.getElem?_eq_none (show (putCells n k).size ≤ j from (by show 8 ≤ j; omega)), Array.getElem?_eq_none (show (putCells n (k + 1)).size ≤ j from (by show 8 ≤ j; omega))]

/-- The first k bytes of a number. -/
def leB (n : Int) (k : Nat) : List UInt8 := (List.range k).map fun j => UInt8.ofNat (nbyte n j).toNat
def putB (n : Int) (k : Nat) : ByteArray := ⟨(leB n k).toArray⟩
theorem leB_len (n : Int) (k : Nat) : (leB n k).length = k := by simp [leB]
theorem nbyte_in (n : Int) (j : Nat) : 0 ≤ nbyte n j ∧ nbyte n j < 256 := by unfold nbyte; omega
theorem leB_at (n : Int) (k j : Nat) (hj : j < k) : ((leB n k)[j]'(by rw [leB_len]; exact hj)).toNat = nbyte n j := by
  have := nbyte_in n j
  simp [leB]
  omega
theorem sizeOf_u8 (w : World) : (Go.sizeOf 5).run Try.prog w = .ok 1 w := by kernel_rfl
theorem run_arr8 (b k : Nat) (hk : k ≤ 8) (w : World) : (Instr.sliceAt 60 (.pointer (some ⟨b, 0, none⟩)) none (some (.int .i64 k)) (some (.int .i64 k))).run Try.prog w = .ok (.slice (some ⟨b, 0, none⟩) k k) w := by
  have h := run_sliceAt_array_hm w 60 ⟨b, 0, none⟩ (P := Try.prog) (by kernel_rfl) .i64 .i64 (k : Int) (k : Int) (by omega) (by omega) (by rw [show Try.prog.arrayLen 60 = 8 from by kernel_rfl]; omega)
  rw [h, show Try.prog.elem 60 = 5 from by kernel_rfl, sizeOf_u8]
  show Result.ok (slicedAt _ 0 k k 1) w = _
  unfold slicedAt
  have : (Addr.mk b 0 none).add (0 * 1) = ⟨b, 0, none⟩ := rfl
  rw [this]
  simp

set_option maxRecDepth 100000 in
set_option maxHeartbeats 4000000 in
theorem Put_any (n : Int) (k : Nat) (hk : k ≤ 8) (_hn : 0 ≤ n ∧ n < 18446744073709551616) (w : World) :
    Calls Try.prog 22 #[.int .u64 n, .int .i64 k] w fun e w' => e = .returned (.string (putB n k)) ∧ Below w.heap.size w w' := by
  have e1 : mn (mx (k : Int) 0) 8 = k := by rw [mn_def, mx_def]; omega
  go_enter Try.func22, Try.ntmps22
  go_wp2_with fail
  have hb : Blk (w.alloc (.cells (putCells n 0) 60)) w.heap.size 60 (putCells n 0) := Blk.new _ _ _
  have hB : Below w.heap.size w (w.alloc (.cells (putCells n 0) 60)) := (Below.refl _ _).alloc (Nat.le_refl _) _
  go_loopw [10] (fun i wr => ∃ j : Nat, j ≤ 8 ∧ i = .int .i64 j ∧ Blk wr w.heap.size 60 (putCells n j) ∧ Below w.heap.size w wr) (fun i _ => 8 - (intOf i).toNat)
  case atStart => exact ⟨0, by omega, rfl, hb, hB⟩
  case round =>
    clear hb hB
    obtain ⟨j, hj, rfl, hb, hB⟩ := hrel
    by_cases hlt : j < 8
    · have c1 := (hb.cell j).trans (putCells_at n j j hlt)
      have f1 := hb.frozen j
      go_wp2_with fail
      go_roundw
      case rel => exact ⟨j + 1, by omega, by go_num, by rw [← putCells_set n j hlt]; exact hb.set_ _ _, hB.setCell (Nat.le_refl _) _⟩
      case measure => simp [intOf]; omega
    · obtain rfl : j = 8 := by omega
      have hs := run_arr8 w.heap.size k hk wr
      have hbb : ByteBlk wr w.heap.size (leB n k) := ⟨fun j hj => by
        have hj' : j < k := by rw [leB_len] at hj; exact hj
        rw [hb.cell, putCells_at n 8 j (by omega), leB_at n k j hj']
        unfold putAt
        rw [if_pos (by omega)], fun j _ => hb.frozen j⟩
      have hc : (convert 50 9 (.slice (some ⟨w.heap.size, 0, none⟩) k k)).run Try.prog wr = .ok (.string (putB n k)) wr := run_toString wr Try.underlying50 Try.underlying5 Try.underlying9 hbb (leB_len n k).symm
      go_wp2_with fail
      go_ret
      exact ⟨rfl, hB⟩
/-- The number of bytes. -/
def leN : List UInt8 → Nat
  | [] => 0
  | b :: l => b.toNat + 256 * leN l
theorem leN_lt : ∀ l : List UInt8, leN l < 2 ^ (8 * l.length)
  | [] => by simp [leN]
  | b :: l => by
    have := leN_lt l
    have hb := b.toNat_lt
    rw [List.length_cons, show 8 * (l.length + 1) = 8 * l.length + 8 by omega, Nat.pow_add]
    show b.toNat + 256 * leN l < _
    omega
theorem leN_append (l m : List UInt8) : leN (l ++ m) = leN l + 2 ^ (8 * l.length) * leN m := by
  induction l with
  | nil => simp [leN]
  | cons b l ih =>
    rw [List.length_cons, show 8 * (l.length + 1) = 8 * l.length + 8 by omega, Nat.pow_add]
    show b.toNat + 256 * leN (l ++ m) = b.toNat + 256 * leN l + _
    rw [ih, Nat.mul_add, Nat.add_assoc, show (2 : Nat) ^ 8 = 256 from rfl, Nat.mul_left_comm, Nat.mul_assoc]
theorem leN_zeros (k : Nat) : leN (List.replicate k 0) = 0 := by
  induction k with
  | zero => rfl
  | succ k ih => rw [List.replicate_succ]; show (0 : UInt8).toNat + 256 * leN _ = 0; rw [ih]; rfl
theorem leN_take_succ (l : List UInt8) (k : Nat) (hk : k < l.length) : leN (l.take (k + 1)) = leN (l.take k) + 2 ^ (8 * k) * (l[k]).toNat := by
  rw [List.take_succ_eq_append_getElem hk, leN_append]
  have : (l.take k).length = k := by rw [List.length_take]; omega
  rw [this]
  show _ + _ * (l[k].toNat + 256 * 0) = _
  rw [Nat.mul_zero, Nat.add_zero]

theorem or_byte (a x j : Nat) (ha : a < 2 ^ (8 * j)) (hx : x < 2 ^ 8) (hj : j < 8) : bits BinOp.or IntKind.u64 (a : Int) (IntKind.u64.wrap ((x : Int) * 2 ^ (8 * j))) = ((a + 2 ^ (8 * j) * x : Nat) : Int) := by
  have hp : 2 ^ (8 * j) * 2 ^ 8 ≤ 2 ^ 64 := by rw [← Nat.pow_add]; exact Nat.pow_le_pow_right (by omega) (by omega)
  have hlt : 2 ^ (8 * j) * x + 2 ^ (8 * j) ≤ 2 ^ 64 := by
    have : 2 ^ (8 * j) * (x + 1) ≤ 2 ^ (8 * j) * 2 ^ 8 := Nat.mul_le_mul_left _ (by omega)
    rw [Nat.mul_add, Nat.mul_one] at this
    exact Nat.le_trans this hp
  have hp0 : 0 < 2 ^ (8 * j) := Nat.pow_pos (by omega)
  have hc : ((x : Int) * 2 ^ (8 * j)) = ((2 ^ (8 * j) * x : Nat) : Int) := by push_cast; rw [Int.mul_comm]
  have hw : IntKind.u64.wrap ((x : Int) * 2 ^ (8 * j)) = ((2 ^ (8 * j) * x : Nat) : Int) := by
    rw [hc, IntKind.wrap_u64]
    omega
  rw [hw, u64_or_nat a (2 ^ (8 * j) * x) (by omega) (by omega), Nat.or_comm, ← Nat.two_pow_add_eq_or_of_lt ha x, Nat.add_comm]

set_option maxRecDepth 100000 in
set_option maxHeartbeats 4000000 in
theorem Get_any (s : ByteArray) (hs : s.size ≤ 8) (w : World) :
    Calls Try.prog 29 #[.string s] w fun e w' => e = .returned (.int .u64 (leN s.data.toList)) ∧ Below w.heap.size w w' := by
  go_enter Try.func29, Try.ntmps29
  have hb0 : ByteBlk (w.alloc (.cells #[.int .u8 0, .int .u8 0, .int .u8 0, .int .u8 0, .int .u8 0, .int .u8 0, .int .u8 0, .int .u8 0] 60)) w.heap.size (List.replicate 8 0) := by
    have h := Blk.new w 60 #[.int .u8 0, .int .u8 0, .int .u8 0, .int .u8 0, .int .u8 0, .int .u8 0, .int .u8 0, .int .u8 0]
    refine ⟨fun j hj => ?_, fun j _ => h.frozen j⟩
    rw [h.cell]
    have hj : j < 8 := by simpa using hj
    match j, hj with
    | 0, _ => rfl
    | 1, _ => rfl
    | 2, _ => rfl
    | 3, _ => rfl
    | 4, _ => rfl
    | 5, _ => rfl
    | 6, _ => rfl
    | 7, _ => rfl
  have hs8 : s.size ≤ (List.replicate 8 (0 : UInt8)).length := by simpa using hs
  go_wp2_with (refine wpList_copyBytes (o := ⟨some 8, _, _, _, _, _⟩) _ rfl rfl Try.underlying50 sizeOf_u8 hb0 rfl rfl hs hs8 ?_; intro w1 hb hg hz; clear hb0)
  have hB : Below w.heap.size w w1 := ((Below.refl w.heap.size w).alloc (Nat.le_refl _) _).grown hg (by simp) (fun q e => by cases e; exact Nat.le_refl _)
  have hl8 : (s.data.toList ++ List.drop s.size (List.replicate 8 0)).length = 8 := by
    have : s.data.toList.length = s.size := by rw [Array.length_toList]; rfl
    rw [List.length_append, List.length_drop, List.length_replicate, this]; omega
  have hN : leN (s.data.toList ++ List.drop s.size (List.replicate 8 0)) = leN s.data.toList := by
    rw [leN_append, List.drop_replicate, leN_zeros, Nat.mul_zero, Nat.add_zero]
  have HN := Lib.hid hN
  clear hN hs8 hg hz hs
  generalize s.data.toList ++ List.drop s.size (List.replicate 8 0) = l at *
  go_loop [4, 9] (fun n i => ∃ j : Nat, j ≤ 8 ∧ i = .int .i64 j ∧ n = .int .u64 (leN (l.take j))) (fun _ i => 8 - (intOf i).toNat)
  case atStart => exact ⟨0, by omega, rfl, rfl⟩
  case round =>
    obtain ⟨j, hj, rfl, rfl⟩ := hrel
    by_cases hlt : j < 8
    · have c1 := hb.cell j (by omega)
      have hx := (l[j]'(by omega)).toNat_lt
      have hstep := leN_take_succ l j (by omega)
      have hlow := leN_lt (l.take j)
      rw [List.length_take, hl8, Nat.min_eq_left (by omega)] at hlow
      generalize leN (l.take j) = a at *
      generalize (l[j]'(by omega)).toNat = x at *
      have hor := Lib.hid (or_byte a x j hlow hx hlt)
      go_wp2_with fail
      go_round
      case rel => exact ⟨j + 1, by omega, by go_num, by rw [hor.out, hstep]⟩
      case measure => simp [intOf]; omega
    · obtain rfl : j = 8 := by omega
      have ht : l.take 8 = l := List.take_of_length_le (by omega)
      have HT := Lib.hid ht
      clear ht
      go_wp2_with fail
      go_ret
      exact ⟨by first | rfl | (rw [← HN.out, ← HT.out]; rfl) | (show Ending.returned (.int .u64 (leN _)) = _; rw [HT.out, HN.out]), hB⟩
end Go.Proofs.Ytoofmklghllliaa
