/- Zero and Full: a sector's bytes. -/
import Derived.Test.YtofoneapfokdjaaProg
import Derived.Test.YtofoneapfokdjaaBase
import Derived.Test.YtofoneapfokdjaaDisk3
import Derived.WalkKit
import Derived.Lib.Hide
import Derived.WalkLawsBesides
import Derived.WalkSpells
namespace Go.Proofs.Ytofoneapfokdjaa
set_option linter.unusedSimpArgs false
set_option linter.unusedVariables false
open Go.RowKit
attribute [local go_sem high] run_mx run_mn

def zeroN (k : Nat) : ByteArray := ⟨Array.replicate k 0⟩
theorem zeroN_succ (k : Nat) : zeroN (k + 1) = zeroN k ++ ⟨#[0]⟩ := by
  apply ByteArray.ext
  show Array.replicate (k + 1) 0 = (zeroN k ++ ⟨#[0]⟩).data
  rw [ByteArray.data_append]
  show _ = Array.replicate k 0 ++ #[0]
  rw [Array.replicate_succ]; rfl

set_option maxRecDepth 100000 in
theorem Zero_any (w : World) : Calls Try.prog 10 #[] w fun e w' => e = .returned (.string zeros) ∧ w = w' := by
  go_enter Try.func10, Try.ntmps10
  go_wp2
  go_loop [1, 2] (fun s i => ∃ k : Nat, k ≤ 128 ∧ i = .int .i64 k ∧ s = .string (zeroN k)) (fun _ i => 128 - (intOf i).toNat)
  case atStart => exact ⟨0, by omega, rfl, rfl⟩
  case round =>
    obtain ⟨k, hk, rfl, rfl⟩ := hrel
    by_cases hlt : k < 128
    · have hadd : (Op.stringOp .add (zeroN k) ⟨#[0]⟩).run Try.prog w = .ok (.string (zeroN (k + 1))) w := by
        rw [run_string_add_sum, ← zeroN_succ]
        show (Array.replicate k (0 : UInt8)).size + 1 ≤ _
        rw [Array.size_replicate]; omega
      go_wp2
      go_round
      case rel => exact ⟨k + 1, by omega, by go_num, rfl⟩
      case measure => simp [intOf]; omega
    · obtain rfl : k = 128 := by omega
      go_wp2
      go_ret
      exact ⟨rfl, rfl⟩

/-- The bytes of l, one behind the other, again and again: the first m. -/
def cyc (l : List UInt8) (m : Nat) : List UInt8 := (List.range m).map fun j => l[j % l.length]?.getD 0
def full (s : ByteArray) : ByteArray := if s.size = 0 then zeros else ⟨(cyc s.data.toList 128).toArray⟩
theorem full_size (s : ByteArray) : (full s).size = 128 := by
  unfold full
  split
  · exact zeros_size
  · show (cyc s.data.toList 128).toArray.size = 128
    rw [List.size_toArray]
    simp [cyc]

def cycB (s : ByteArray) (m : Nat) : ByteArray := ⟨(cyc s.data.toList m).toArray⟩
def strLen : Value → Nat | .string t => t.size | _ => 0
theorem cycB_size (s : ByteArray) (m : Nat) : (cycB s m).size = m := by
  show (cyc s.data.toList m).toArray.size = m
  rw [List.size_toArray]
  simp [cyc]
theorem cycB_step (s : ByteArray) (q k : Nat) (hk : k ≤ s.size) : cycB s (q * s.size + k) = cycB s (q * s.size) ++ s.extract 0 k := by
  apply ByteArray.ext
  rw [ByteArray.data_append]
  show (cyc s.data.toList (q * s.size + k)).toArray = (cyc s.data.toList (q * s.size)).toArray ++ (s.extract 0 k).data
  apply Array.ext'
  rw [Array.toList_append, extract_toList]
  show cyc s.data.toList (q * s.size + k) = cyc s.data.toList (q * s.size) ++ _
  unfold cyc
  rw [List.range_add, List.map_append]
  congr 1
  have hl : s.data.toList.length = s.size := by rw [Array.length_toList]; rfl
  apply List.ext_getElem
  · simp [hl]; omega
  · intro i h1 h2
    have hi : i < k := by simpa using h1
    simp only [List.map_map, List.getElem_map, List.getElem_range, Function.comp, List.getElem_take]
    have hmod : (q * s.size + i) % s.data.toList.length = i := by rw [hl, Nat.mul_comm, Nat.mul_add_mod, Nat.mod_eq_of_lt (by omega)]
    rw [hmod, List.getElem?_eq_getElem (by omega)]
    rfl

set_option maxRecDepth 100000 in
theorem Full_any (s : ByteArray) (w : World) (hs : s.size ≤ 9223372036854775807) : Calls Try.prog 11 #[.string s] w fun e w' => e = .returned (.string (full s)) ∧ w = w' := by
  by_cases h0 : s.size = 0
  · have hf : full s = zeros := if_pos h0
    obtain rfl : s = ⟨#[]⟩ := by
      apply ByteArray.ext
      exact Array.eq_empty_of_size_eq_zero h0
    rw [hf]
    clear hf h0
    go_enter Try.func11, Try.ntmps11
    go_wp2_with (go_at_call 10; refine (Zero_any _).mono ?_; rintro e w' ⟨rfl, rfl⟩)
    go_ret
    exact ⟨rfl, rfl⟩
  · have hf : full s = cycB s 128 := if_neg h0
    rw [hf]
    clear hf
    have hne : s.toList.isEmpty = false := by
      rw [List.isEmpty_eq_false_iff]
      intro e
      have : s.toList.length = 0 := by rw [e]; rfl
      rw [ByteArray.toList_eq, Array.length_toList] at this
      exact h0 this
    have hpos : 1 ≤ s.size := by omega
    go_enter Try.func11, Try.ntmps11
    go_wp2
    clear hne
    go_loop [3] (fun t => ∃ m : Nat, m ≤ 128 ∧ (m = 128 ∨ ∃ q, m = q * s.size) ∧ t = .string (cycB s m)) (fun t => 128 - strLen t)
    case atStart => exact ⟨0, by omega, .inr ⟨0, by simp⟩, rfl⟩
    case round =>
      obtain ⟨m, hm, hq, rfl⟩ := hrel
      have hsz := cycB_size s m
      by_cases hlt : m < 128
      · obtain ⟨q, hqm⟩ : ∃ q, m = q * s.size := hq.resolve_left (by omega)
        have hk : mn s.size (128 - m) = ((min s.size (128 - m) : Nat) : Int) := by rw [mn_def]; omega
        have hk' : min (s.size : Int) (128 - m) = ((min s.size (128 - m) : Nat) : Int) := by omega
        have hstep := cycB_step s q (min s.size (128 - m)) (by omega)
        have hnext : m + min s.size (128 - m) = 128 ∨ ∃ q', m + min s.size (128 - m) = q' * s.size := by
          by_cases h : s.size ≤ 128 - m
          · exact .inr ⟨q + 1, by rw [Nat.add_mul, ← hqm]; omega⟩
          · exact .inl (by omega)
        have hks : min s.size (128 - m) ≤ s.size := by omega
        have hk1 : 1 ≤ min s.size (128 - m) := by omega
        have hkm : m + min s.size (128 - m) ≤ 128 := by omega
        rw [← hqm] at hstep
        generalize min s.size (128 - m) = k at *
        have hes : (s.extract 0 k).size = k := by
          have : (s.extract 0 k).data.toList.length = k := by rw [extract_toList, List.length_take, Array.length_toList]; exact Nat.min_eq_left hks
          rwa [Array.length_toList] at this
        have hadd : (Op.stringOp .add (cycB s m) (s.extract 0 k)).run Try.prog w = .ok (.string (cycB s (m + k))) w := by
          rw [run_string_add_sum, ← hstep]
          rw [hes, hsz]; omega
        have HZ := Lib.hid (cycB_size s (m + k))
        have HN := Lib.hid hnext
        clear hstep hnext hq hqm hes
        have hks' : (k : Int) ≤ s.size := by omega
        go_wp2
        have HZ0 := Lib.hid hsz
        clear hsz
        go_round
        case rel => exact ⟨m + k, hkm, HN.out, rfl⟩
        case measure => simp only [strLen]; rw [HZ.out, HZ0.out]; omega
      · obtain rfl : m = 128 := by omega
        clear hq
        go_wp2
        go_ret
        exact ⟨rfl, rfl⟩
end Go.Proofs.Ytofoneapfokdjaa
