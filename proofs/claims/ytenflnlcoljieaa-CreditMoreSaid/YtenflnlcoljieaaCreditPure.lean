/- The arithmetic of debts, without a program: sums are kept, lists join, more is more, fair picks do all. -/
import Derived.Test.YtenflnlcoljieaaCredit
namespace Go.Proofs.Ytenflnlcoljieaa
open Go.RowKit

theorem within_def (n m : Int) : within n m = min (max n 0) m := by unfold within; rw [mn_def, mx_def]

theorem runS_le (xs ys : List Int) (d : Int) (k : Nat) : 0 ≤ (runS xs ys d k).1 ∧ (runS xs ys d k).1 ≤ 64 := by
  cases k with
  | zero => exact within_bd d 64 (by omega)
  | succ k => have := take_bd (earnD (runS xs ys d k).1 (xs[k]?.getD 0)) (ys[k]?.getD 0); simp only [runS]; omega

def sumW (xs : List Int) : Nat → Int
  | 0 => 0
  | k + 1 => sumW xs k + within (xs[k]?.getD 0) 8

theorem step_keeps (p x y : Int) (h0 : 0 ≤ p) (h1 : p ≤ 64) : takeD (earnD p x) y + (earnN p x + takeN (earnD p x) y) = p + within x 8 := by
  have := within_bd x 8 (by omega)
  unfold takeD takeN earnD earnN earnS
  simp only [within_def, mn_def, mx_def] at *
  omega

theorem runS_keeps (xs ys : List Int) (d : Int) (k : Nat) : (runS xs ys d k).1 + (runS xs ys d k).2 = within d 64 + sumW xs k := by
  induction k with
  | zero => simp [runS, sumW]
  | succ k ih =>
    have h := runS_le xs ys d k
    have := step_keeps (runS xs ys d k).1 (xs[k]?.getD 0) (ys[k]?.getD 0) h.1 h.2
    simp only [runS, sumW]
    omega

theorem sumW_bd (xs : List Int) (k : Nat) : 0 ≤ sumW xs k ∧ sumW xs k ≤ 8 * k := by
  induction k with
  | zero => simp [sumW]
  | succ k ih => have := within_bd (xs[k]?.getD 0) 8 (by omega); simp only [sumW]; omega

theorem sumW_more (xs : List Int) (k : Nat) (h : xs.length ≤ k) : sumW xs k = sumW xs xs.length := by
  induction k with
  | zero => rw [show xs.length = 0 by omega]
  | succ k ih =>
    by_cases hk : xs.length = k + 1
    · rw [hk]
    · rw [sumW, ih (by omega), List.getElem?_eq_none (by omega)]
      have : within 0 8 = 0 := by decide
      simp [this]

theorem runS_append (a b c e : List Int) (d : Int) (la k : Nat) (ha : a.length = la) (hb : b.length = la) :
    runS (a ++ c) (b ++ e) d (la + k) = ((runS c e (runS a b d la).1 k).1, (runS a b d la).2 + (runS c e (runS a b d la).1 k).2) := by
  induction k with
  | zero =>
    have h1 : ∀ j, j ≤ la → runS (a ++ c) (b ++ e) d j = runS a b d j := by
      intro j
      induction j with
      | zero => intro _; simp [runS]
      | succ j ih =>
        intro hj
        simp only [runS]
        rw [ih (by omega), List.getElem?_append_left (by omega), List.getElem?_append_left (by omega)]
    have h2 := runS_le a b d la
    have h3 : within (runS a b d la).1 64 = (runS a b d la).1 := by rw [within_def]; omega
    rw [Nat.add_zero, h1 la (Nat.le_refl _)]
    simp only [runS, h3, Int.add_zero]
  | succ k ih =>
    rw [← Nat.add_assoc]
    simp only [runS]
    rw [ih, List.getElem?_append_right (by omega), List.getElem?_append_right (by omega), show la + k - a.length = k by omega, show la + k - b.length = k by omega]
    simp only [Prod.mk.injEq, true_and]
    omega

theorem step_picks (p q x y z : Int) (h : q ≤ p) (hy : y ≤ z) : takeD (earnD q x) z ≤ takeD (earnD p x) y := by
  unfold takeD takeN earnD earnS
  simp only [within_def, mn_def]
  omega
theorem step_rates (p q x z y : Int) (h : p ≤ q) (hx : x ≤ z) : takeD (earnD p x) y ≤ takeD (earnD q z) y ∧ earnN p x ≤ earnN q z ∧ takeN (earnD p x) y ≤ takeN (earnD q z) y := by
  unfold takeD takeN earnD earnN earnS
  simp only [within_def, mn_def, mx_def]
  omega

theorem runS_picks (xs ys zs : List Int) (d : Int) (h : ∀ i : Nat, ys[i]?.getD 0 ≤ zs[i]?.getD 0) (k : Nat) : (runS xs zs d k).1 ≤ (runS xs ys d k).1 ∧ (runS xs ys d k).2 ≤ (runS xs zs d k).2 := by
  have h1 : (runS xs zs d k).1 ≤ (runS xs ys d k).1 := by
    induction k with
    | zero => simp [runS]
    | succ k ih => simp only [runS]; exact step_picks _ _ _ _ _ ih (h k)
  have h2 := runS_keeps xs ys d k
  have h3 := runS_keeps xs zs d k
  omega
theorem runS_rates (xs zs ys : List Int) (d : Int) (h : ∀ i : Nat, xs[i]?.getD 0 ≤ zs[i]?.getD 0) (k : Nat) : (runS xs ys d k).1 ≤ (runS zs ys d k).1 ∧ (runS xs ys d k).2 ≤ (runS zs ys d k).2 := by
  induction k with
  | zero => simp [runS]
  | succ k ih => simp only [runS]; have := step_rates _ _ _ _ (ys[k]?.getD 0) ih.1 (h k); omega

theorem fair_step (n s y : Int) (hn : n ≤ 64) (hs : 0 ≤ s) (hy : y = 0 ∨ y = 1) (h0 : 0 ≤ n) : takeD (earnD (max (n - s) 0) 0) y = max (n - (s + y)) 0 := by
  unfold takeD takeN earnD earnS
  simp only [within_def, mn_def]
  omega
theorem runS_fair (ys : List Int) (n : Int) (h0 : 0 ≤ n) (hn : n ≤ 64) (hy : ∀ y ∈ ys, y = 0 ∨ y = 1) (k : Nat) (hk : k ≤ ys.length) : (runS [] ys n k).1 = max (n - (ys.take k).sum) 0 ∧ 0 ≤ (ys.take k).sum := by
  induction k with
  | zero => simp [runS, within_def]; omega
  | succ k ih =>
    have hlt : k < ys.length := by omega
    obtain ⟨ih, ihs⟩ := ih (by omega)
    have e : (ys.take (k + 1)).sum = (ys.take k).sum + ys[k] := by rw [List.take_succ_eq_append_getElem hlt, List.sum_append]; simp
    have hyk := hy ys[k] (List.getElem_mem _)
    refine ⟨?_, by omega⟩
    simp only [runS]
    rw [ih, e, List.getElem?_eq_getElem hlt]
    simp only [List.getElem?_nil, Option.getD_none, Option.getD_some]
    exact fair_step _ _ _ hn ihs hyk h0
end Go.Proofs.Ytenflnlcoljieaa
