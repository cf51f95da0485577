/- The walk of the law CreditKeeps. -/
import Derived.Test.YtenflnlcoljieaaCreditPure
import Derived.Test.YtenflnlcoljieaaWalkCreditTells
namespace Go.Proofs.Ytenflnlcoljieaa
open Go.RowKit
attribute [local go_sem high] run_mx run_mn

set_option maxRecDepth 100000 in
theorem walkCreditKeeps (W : World) (d : Int) (_wd : (Lit.int .i64 d).wf = true) (A : Option Addr) (n c : Nat) (xs : List Int) (w1 : IsInts .i64 8 W A n c xs) (A' : Option Addr) (n' c' : Nat) (ys : List Int) (w2 : IsInts .i64 8 W A' n' c' ys) :
    Calls Try.prog 4 #[.int .i64 d, .slice A n c, .slice A' n' c'] W fun e w' => e = .returned (.bool true) ∧ Below W.heap.size W w' := by
  have hle := w1.le
  have hle' := w2.le
  have hm1 : mn n 40 = ((min n 40 : Nat) : Int) := by rw [mn_def]; omega
  have hm2 : mn n' 40 = ((min n' 40 : Nat) : Int) := by rw [mn_def]; omega
  have h1 := w1.ints.take (min n 40) (by omega)
  have h2 := w2.ints.take (min n' 40) (by omega)
  have hx1 : min n 40 ≤ 40 := by omega
  have hx2 : min n' 40 ≤ 40 := by omega
  have hy1 : min n 40 ≤ c := by omega
  have hy2 : min n' 40 ≤ c' := by omega
  generalize min n 40 = m at *
  generalize min n' 40 = m' at *
  generalize xs.take m = l at *
  generalize ys.take m' = l' at *
  clear w1 w2 hle hle'
  have hl1 : l.length = m := by have := h1.1; simpa using this
  have k1 := runS_keeps l l' d (max m m')
  have k2 := runS_le l l' d (max m m')
  have k3 := (runS_bd l l' d (max m m')).1
  have k4 := sumW_more l (max m m') (by omega)
  rw [k4, hl1] at k1
  have k5 := within_bd d 64 (by omega)
  have k6 := sumW_bd l m
  have K1 := Lib.hid k1
  have HL := Lib.hid hl1
  clear k1 k4 hl1
  go_enter Try.func4, Try.ntmps4
  go_wp2_with (go_at_call 15; refine (Cut_any _ _ _ (by omega)).mono ?_; rintro e w' ⟨rfl, rfl⟩)
  go_loop [7, 8] (fun s i => ∃ k : Nat, k ≤ m ∧ s = .int .i64 (within d 64 + sumW l k) ∧ i = .int .i64 k) (fun _ i => m - (intOf i).toNat)
  case atStart => exact ⟨0, by omega, by simp [sumW], rfl⟩
  case round =>
    obtain ⟨k, hk, rfl, rfl⟩ := hrel
    by_cases hlt : k < m
    · obtain ⟨ad, u, rfl, hb, hx, hc⟩ := h1.at_ hlt
      simp only [List.getElem?_map, Option.map_eq_some_iff] at hx
      obtain ⟨x, hx, rfl⟩ := hx
      have hs : within d 64 + sumW l (k + 1) = within d 64 + sumW l k + within x 8 := by simp only [sumW, hx, Option.getD_some]; omega
      have HS := Lib.hid hs
      have k7 := sumW_bd l k
      have k8 := within_bd x 8 (by omega)
      clear hs hx
      go_wp2_with (go_at_call 15; refine (Cut_any _ _ _ (by omega)).mono ?_; rintro e w' ⟨rfl, rfl⟩)
      go_round
      case rel => exact ⟨k + 1, by omega, by rw [HS.out], by go_num⟩
      case measure => simp [intOf]; omega
    · obtain rfl : k = m := by omega
      have k9 : (runS l l' d (max k m')).1 + (runS l l' d (max k m')).2 ≤ within d 64 + sumW l k := by have := K1.out; omega
      have k10 : within d 64 + sumW l k ≤ (runS l l' d (max k m')).1 + (runS l l' d (max k m')).2 := by have := K1.out; omega
      go_wp2_with (first | (go_at_call 12; refine (Run_any _ _ _ _ _ _ _ _ _ _ h1 h2 (by omega) (by omega)).mono ?_; rintro e w1 ⟨rfl, hb1⟩) | (go_at_call 14; refine (fixed_any _).mono ?_; rintro e w3 ⟨rfl, hb3⟩))
      go_ret
      exact ⟨rfl, hb1.trans (hb3.mono hb1.size)⟩
end Go.Proofs.Ytenflnlcoljieaa
