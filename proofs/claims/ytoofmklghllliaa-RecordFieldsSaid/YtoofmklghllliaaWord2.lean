/- The document's numbers: lodgerref01. -/
import Derived.Test.YtoofmklghllliaaWord
namespace Go.Proofs.Ytoofmklghllliaa
open Go.RowKit
attribute [local go_sem high] run_mx run_mn

theorem Size_any (n : Int) (w : World) : Calls Try.prog 41 #[.int .i64 n] w fun e w' => e = .returned (.int .i64 (mx 0 (mn n 8))) ∧ w = w' := by
  go_enter Try.func41, Try.ntmps41
  go_wp2
  go_ret
  exact ⟨rfl, rfl⟩

theorem conv_byte (w : World) (x : Int) (hx : 0 ≤ x ∧ x ≤ 255) : (convert 50 9 (.slice (some ⟨w.heap.size, 0, none⟩) 1 1)).run Try.prog (w.alloc (.cells #[.int .u8 x] 5)) = .ok (.string ⟨#[UInt8.ofNat x.toNat]⟩) (w.alloc (.cells #[.int .u8 x] 5)) := by
  have hb : ByteBlk (w.alloc (.cells #[.int .u8 x] 5)) w.heap.size [UInt8.ofNat x.toNat] := by
    have h := Blk.new w 5 #[.int .u8 x]
    have hv : ((UInt8.ofNat x.toNat).toNat : Int) = x := by
      rw [UInt8.toNat_ofNat', Nat.mod_eq_of_lt (by omega)]; omega
    refine ⟨fun j hj => ?_, fun j _ => h.frozen j⟩
    obtain rfl : j = 0 := by simp at hj; exact hj
    rw [h.cell]
    show some (Value.int .u8 x) = some (.int .u8 ((UInt8.ofNat x.toNat).toNat : Int))
    rw [hv]
  exact run_toString _ Try.underlying50 Try.underlying5 Try.underlying9 hb rfl

theorem putB_succ (n : Int) (j : Nat) : putB n (j + 1) = putB n j ++ ⟨#[UInt8.ofNat (nbyte n j).toNat]⟩ := by
  apply ByteArray.ext
  apply Array.toList_inj.1
  unfold putB leB
  simp [List.range_succ]
theorem putB_size (n : Int) (j : Nat) : (putB n j).size = j := by
  show (leB n j).toArray.size = j
  rw [List.size_toArray, leB_len]

set_option maxRecDepth 100000 in
set_option maxHeartbeats 4000000 in
theorem RPut_any (n : Int) (k : Nat) (hk : k ≤ 8) (hn : 0 ≤ n ∧ n < 18446744073709551616) (w : World) :
    Calls Try.prog 25 #[.int .u64 n, .int .i64 k] w fun e w' => e = .returned (.string (putB n k)) ∧ Below w.heap.size w w' := by
  have e1 : mx 0 (mn (k : Int) 8) = k := by rw [mn_def, mx_def]; omega
  go_enter Try.func25, Try.ntmps25
  go_wp2_with fail
  go_loopw [0, 5, 6] (fun m s i wr => ∃ j : Nat, j ≤ k ∧ i = .int .i64 j ∧ m = .int .u64 (n / 2 ^ (8 * j)) ∧ s = .string (putB n j) ∧ Below w.heap.size w wr) (fun _ _ i _ => k - (intOf i).toNat)
  case atStart => exact ⟨0, by omega, rfl, by simp, rfl, Below.refl _ _⟩
  case round =>
    obtain ⟨j, hj, rfl, rfl, rfl, hB⟩ := hrel
    by_cases hlt : j < k
    · have hlt' : (j : Int) < (k : Int) := by omega
      have hnb := nbyte_in n j
      have hcv := conv_byte wr (nbyte n j) (by omega)
      have hadd : ∀ w, (Op.stringOp .add (putB n j) ⟨#[UInt8.ofNat (nbyte n j).toNat]⟩).run Try.prog w = .ok (.string (putB n (j + 1))) w := fun w => by
        rw [run_string_add_sum, ← putB_succ]
        rw [putB_size]; show j + 1 ≤ _; omega
      have hd : n / 2 ^ (8 * j) / 256 = n / 2 ^ (8 * (j + 1)) := by
        rw [Int.ediv_ediv_of_nonneg (by exact Int.pow_nonneg (by omega)), show 8 * (j + 1) = 8 * j + 8 by omega, Int.pow_add]; rfl
      have hm0 : 0 ≤ n / 2 ^ (8 * j) := Int.ediv_nonneg hn.1 (Int.pow_nonneg (by omega))
      have hv1 : n / 2 ^ (8 * j) % 256 = nbyte n j := rfl
      have hv2 : (n / 2 ^ (8 * j)).tdiv 256 = n / 2 ^ (8 * (j + 1)) := by rw [Int.tdiv_eq_ediv_of_nonneg hm0]; exact hd
      go_wp2_with (first | (go_at_call 41; refine (Size_any _ _).mono ?_; rintro e w' ⟨rfl, rfl⟩))
      go_roundw
      case rel => exact ⟨j + 1, by omega, by go_num, by rw [IntKind.wrap_u64]; congr 1; have h1 : 0 ≤ n / 2 ^ (8 * (j + 1)) := Int.ediv_nonneg hn.1 (Int.pow_nonneg (by omega)); have h2 : n / 2 ^ (8 * (j + 1)) ≤ n := Int.ediv_le_self _ hn.1; omega, rfl, hB.alloc hB.size _⟩
      case measure => simp [intOf]; omega
    · obtain rfl : j = k := by omega
      have hlt' : ¬ ((j : Int) < (j : Int)) := by omega
      go_wp2_with (first | (go_at_call 41; refine (Size_any _ _).mono ?_; rintro e w' ⟨rfl, rfl⟩))
      go_ret
      exact ⟨rfl, hB⟩

set_option maxRecDepth 100000 in
set_option maxHeartbeats 4000000 in
theorem RGet_any (s : ByteArray) (hs : s.size ≤ 8) (w : World) :
    Calls Try.prog 21 #[.string s] w fun e w' => e = .returned (.int .u64 (leN s.data.toList)) ∧ w = w' := by
  go_enter Try.func21, Try.ntmps21
  have e1 : mn (s.size : Int) 8 = s.size := by rw [mn_def]; omega
  have hl : s.data.toList.length = s.size := by rw [Array.length_toList]; rfl
  go_wp2_with fail
  go_loop [3, 4] (fun m i => ∃ j : Nat, j ≤ s.size ∧ i = .int .i64 ((j : Int) - 1) ∧ m = .int .u64 (leN (s.data.toList.drop j))) (fun _ i => (intOf i + 1).toNat)
  case atStart => exact ⟨s.size, by omega, rfl, by rw [List.drop_of_length_le (by omega)]; rfl⟩
  case round =>
    obtain ⟨j, hj, rfl, rfl⟩ := hrel
    by_cases hlt : 1 ≤ j
    · have hlt' : (1 : Int) ≤ (j : Int) := by omega
      have hlow := leN_lt (s.data.toList.drop j)
      rw [List.length_drop, hl] at hlow
      have hlow2 : leN (s.data.toList.drop j) < 2 ^ 56 := Nat.lt_of_lt_of_le hlow (Nat.pow_le_pow_right (by omega) (by omega))
      have hstep : leN (s.data.toList.drop (j - 1)) = (s.data.toList[j - 1]'(by omega)).toNat + 256 * leN (s.data.toList.drop j) := by
        rw [List.drop_eq_getElem_cons (by omega : j - 1 < s.data.toList.length), show j - 1 + 1 = j by omega]; rfl
      have hx := (s.data.toList[j - 1]'(by omega)).toNat_lt
      have hv : IntKind.u64.wrap ((leN (s.data.toList.drop j) : Int) * 256 + IntKind.u64.wrap ((s.data.toList[j - 1]'(by omega)).toNat : Int)) = (leN (s.data.toList.drop (j - 1)) : Int) := by
        rw [hstep, IntKind.wrap_u64, IntKind.wrap_u64]; omega
      have HV := Lib.hid hv
      clear hv hstep hlow hx
      go_wp2_with fail
      go_round
      case rel => exact ⟨j - 1, by omega, by congr 1; omega, by rw [← HV.out]; rfl⟩
      case measure => simp [intOf]; omega
    · obtain rfl : j = 0 := by omega
      go_wp2_with fail
      go_ret
      exact ⟨rfl, rfl⟩
end Go.Proofs.Ytoofmklghllliaa
