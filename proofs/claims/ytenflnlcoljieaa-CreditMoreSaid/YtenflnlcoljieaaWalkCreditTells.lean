/- The walks of the laws CreditTells and CreditKeeps. -/
import Derived.Test.YtenflnlcoljieaaCreditRef
import Derived.Test.YtenflnlcoljieaaRowKit
namespace Go.Proofs.Ytenflnlcoljieaa
open Go.RowKit
attribute [local go_sem high] run_mx run_mn

theorem Ints.take {w : World} {A : Option Addr} {n : Nat} {xs : List Int} (h : Ints w A n xs) (m : Nat) (hm : m ≤ n) : Ints w A m (xs.take m) := by
  refine ⟨by have := h.1; simp at this ⊢; omega, fun hn => ?_⟩
  obtain ⟨ad, e, hb, hc⟩ := h.2 (by omega)
  refine ⟨ad, e, hb, fun j u hu => hc j u ?_⟩
  rw [List.map_take, List.getElem?_take] at hu
  split at hu
  · exact hu
  · simp at hu

theorem IsInts.ints {w : World} {A : Option Addr} {n c : Nat} {xs : List Int} (h : IsInts .i64 8 w A n c xs) : Ints w A n xs := h.reads

theorem Ints.head {w : World} {A : Option Addr} {n : Nat} {xs : List Int} (h : Ints w A n xs) (hn : 0 < n) : ∃ ad, A = some ad ∧ w.cell? ad = some (.int .i64 (xs[0]?.getD 0)) := by
  obtain ⟨ad, u, e, hb, hx, hc⟩ := h.at_ hn
  have : ad.add 0 = ad := by unfold Addr.add; simp
  rw [this] at hc
  rw [List.getElem?_map] at hx
  cases hx0 : xs[0]? with
  | none => rw [hx0] at hx; simp at hx
  | some x => rw [hx0] at hx; simp at hx; subst hx; exact ⟨ad, e, by simpa using hc⟩

theorem walkCreditTells (W : World) (d : Int) (_wd : (Lit.int .i64 d).wf = true) (A : Option Addr) (n c : Nat) (xs : List Int) (w1 : IsInts .i64 8 W A n c xs) (A' : Option Addr) (n' c' : Nat) (ys : List Int) (w2 : IsInts .i64 8 W A' n' c' ys) :
    Calls Try.prog 3 #[.int .i64 d, .slice A n c, .slice A' n' c'] W fun e w' => e = .returned (.bool true) ∧ Below W.heap.size W w' := by
  have hle := w1.le
  have hle' := w2.le
  have hm1 : mn n 40 = ((min n 40 : Nat) : Int) := by rw [mn_def]; omega
  have hm2 : mn n' 40 = ((min n' 40 : Nat) : Int) := by rw [mn_def]; omega
  have h1 := w1.ints.take (min n 40) (by omega)
  have h2 := w2.ints.take (min n' 40) (by omega)
  have hh1 := h1.head
  have hh2 := h2.head
  have hx1 : min n 40 ≤ 40 := by omega
  have hx2 : min n' 40 ≤ 40 := by omega
  have hy1 : min n 40 ≤ c := by omega
  have hy2 : min n' 40 ≤ c' := by omega
  generalize min n 40 = m at *
  generalize min n' 40 = m' at *
  generalize xs.take m = l at *
  generalize ys.take m' = l' at *
  clear w1 w2 hle hle'
  have hq1 : (0 < m ∧ ∃ ad, A = some ad ∧ W.cell? ad = some (.int .i64 (l[0]?.getD 0))) ∨ ¬ 0 < m := by
    by_cases h : 0 < m
    · exact .inl ⟨h, hh1 h⟩
    · exact .inr h
  have hq2 : (0 < m' ∧ ∃ ad, A' = some ad ∧ W.cell? ad = some (.int .i64 (l'[0]?.getD 0))) ∨ ¬ 0 < m' := by
    by_cases h : 0 < m'
    · exact .inl ⟨h, hh2 h⟩
    · exact .inr h
  clear hh1 hh2
  rcases hq1 with ⟨hp, ad, rfl, hc⟩ | hp <;> rcases hq2 with ⟨hp', ad', rfl, hc'⟩ | hp'
  all_goals
    go_enter Try.func3, Try.ntmps3
    go_wp2_with (first | (go_at_call 8; refine (Earn_any _ _ _).mono ?_; rintro e w' ⟨rfl, rfl⟩) | (go_at_call 10; refine (Take_any _ _ _).mono ?_; rintro e w' ⟨rfl, rfl⟩) | (go_at_call 9; refine (REarn_any _ _ _).mono ?_; rintro e w' ⟨rfl, rfl⟩) | (go_at_call 11; refine (RTake_any _ _ _).mono ?_; rintro e w' ⟨rfl, rfl⟩) | (go_at_call 12; refine (Run_any _ _ _ _ _ _ _ _ _ _ h1 h2 (by omega) (by omega)).mono ?_; rintro e w1 ⟨rfl, hb1⟩) | (go_at_call 13; refine (RRun_any _ _ _ _ _ _ _ _ _ _ (h1.keep hb1) (h2.keep hb1) (by omega) (by omega)).mono ?_; rintro e w' ⟨rfl, rfl⟩) | (go_at_call 14; refine (fixed_any _).mono ?_; rintro e w3 ⟨rfl, hb3⟩))
    go_ret
    exact ⟨rfl, hb1.trans (hb3.mono hb1.size)⟩
end Go.Proofs.Ytenflnlcoljieaa
