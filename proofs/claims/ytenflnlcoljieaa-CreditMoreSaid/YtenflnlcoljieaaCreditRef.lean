/- Contracts of the functions of the reference of layer 16, and of the fixed calls. -/
import Derived.Test.YtenflnlcoljieaaCredit
namespace Go.Proofs.Ytenflnlcoljieaa
open Go.RowKit
attribute [local go_sem high] run_mx run_mn

theorem Cut_any (n m : Int) (w : World) (h : 0 ≤ m) : Calls Try.prog 15 #[.int .i64 n, .int .i64 m] w fun e w' => e = .returned (.int .i64 (within n m)) ∧ w = w' := by
  have hw : mx 0 (mn n m) = within n m := by unfold within; simp only [mx_def, mn_def]; omega
  rw [← hw]
  clear hw
  go_enter Try.func15, Try.ntmps15
  go_wp2_with fail
  go_ret
  exact ⟨rfl, rfl⟩

theorem REarn_any (d r : Int) (w : World) : Calls Try.prog 9 #[.int .i64 d, .int .i64 r] w fun e w' => e = .returned (.tuple #[.int .i64 (earnD d r), .int .i64 (earnN d r)]) ∧ w = w' := by
  have h1 := within_bd d 64 (by omega)
  have h2 := within_bd r 8 (by omega)
  by_cases hs : 64 < within d 64 + within r 8
  · have e1 : earnD d r = 64 := by unfold earnD earnS; rw [mn_def]; omega
    have e2 : earnN d r = within d 64 + within r 8 - 64 := by unfold earnN earnS; rw [mx_def]; omega
    rw [e1, e2]; clear e1 e2
    go_enter Try.func9, Try.ntmps9
    go_wp2_with (go_at_call 15; refine (Cut_any _ _ _ (by omega)).mono ?_; rintro e w' ⟨rfl, rfl⟩)
    go_ret2
    exact ⟨rfl, rfl⟩
  · have e1 : earnD d r = within d 64 + within r 8 := by unfold earnD earnS; rw [mn_def]; omega
    have e2 : earnN d r = 0 := by unfold earnN earnS; rw [mx_def]; omega
    rw [e1, e2]; clear e1 e2
    go_enter Try.func9, Try.ntmps9
    go_wp2_with (go_at_call 15; refine (Cut_any _ _ _ (by omega)).mono ?_; rintro e w' ⟨rfl, rfl⟩)
    go_ret2
    exact ⟨rfl, rfl⟩

theorem RTake_any (d p : Int) (w : World) : Calls Try.prog 11 #[.int .i64 d, .int .i64 p] w fun e w' => e = .returned (.tuple #[.int .i64 (takeD d p), .int .i64 (takeN d p)]) ∧ w = w' := by
  have h1 := within_bd d 64 (by omega)
  have h3 := take_bd d p
  unfold takeD takeN at h3
  go_enter Try.func11, Try.ntmps11
  go_wp2_with (go_at_call 15; refine (Cut_any _ _ _ (by omega)).mono ?_; rintro e w' ⟨rfl, rfl⟩)
  go_ret2
  exact ⟨rfl, rfl⟩

theorem Rat_any (A : Option Addr) (n c : Nat) (xs : List Int) (i : Nat) (w : World) (h : Ints w A n xs) :
    Calls Try.prog 20 #[.slice A n c, .int .i64 i] w fun e w' => e = .returned (.int .i64 (xs[i]?.getD 0)) ∧ w = w' := by
  by_cases hi : i < n
  · obtain ⟨ad, u, rfl, hb, hx, hc⟩ := h.at_ hi
    simp only [List.getElem?_map, Option.map_eq_some_iff] at hx
    obtain ⟨x, hx, rfl⟩ := hx
    have hx' : xs[i]?.getD 0 = x := by simp [hx]
    rw [hx']
    clear hx hx'
    go_enter Try.func20, Try.ntmps20
    go_wp2_with fail
    go_ret
    exact ⟨rfl, rfl⟩
  · have hx' : xs[i]?.getD 0 = 0 := by
      have := h.1
      simp at this
      simp [List.getElem?_eq_none (show xs.length ≤ i by omega)]
    rw [hx']
    clear hx'
    go_enter Try.func20, Try.ntmps20
    go_wp2_with fail
    go_ret
    exact ⟨rfl, rfl⟩

set_option maxRecDepth 100000 in
theorem RRun_any (A A' : Option Addr) (n c n' c' : Nat) (xs ys : List Int) (d : Int) (w : World) (h : Ints w A n xs) (h' : Ints w A' n' ys) (hn : n ≤ 9223372036854775) (hn' : n' ≤ 9223372036854775) :
    Calls Try.prog 13 #[.int .i64 d, .slice A n c, .slice A' n' c'] w fun e w' => e = .returned (.tuple #[.int .i64 (runS xs ys d (max n n')).1, .int .i64 (runS xs ys d (max n n')).2]) ∧ w = w' := by
  go_enter Try.func13, Try.ntmps13
  go_wp2_with (go_at_call 15; refine (Cut_any _ _ _ (by omega)).mono ?_; rintro e w' ⟨rfl, rfl⟩)
  go_loop [0, 8, 9] (fun v s i => ∃ k : Nat, k ≤ max n n' ∧ v = .int .i64 (runS xs ys d k).1 ∧ s = .int .i64 (runS xs ys d k).2 ∧ i = .int .i64 k) (fun _ _ i => max n n' - (intOf i).toNat)
  case atStart => exact ⟨0, by omega, rfl, rfl, rfl⟩
  case round =>
    obtain ⟨k, hk, rfl, rfl, rfl⟩ := hrel
    have hbd := runS_bd xs ys d k
    have hbe := earn_bd (runS xs ys d k).1 (xs[k]?.getD 0)
    have hbt := take_bd (earnD (runS xs ys d k).1 (xs[k]?.getD 0)) (ys[k]?.getD 0)
    by_cases hlt : k < max n n'
    · by_cases h1 : k < n
      · go_wp2_with (first | (go_at_call 9; refine (REarn_any _ _ _).mono ?_; rintro e w' ⟨rfl, rfl⟩) | (go_at_call 11; refine (RTake_any _ _ _).mono ?_; rintro e w' ⟨rfl, rfl⟩) | (go_at_call 20; with_reducible refine (Rat_any _ _ _ _ _ _ h).mono ?_; rintro e w' ⟨rfl, rfl⟩) | (go_at_call 20; with_reducible refine (Rat_any _ _ _ _ _ _ h').mono ?_; rintro e w' ⟨rfl, rfl⟩))
        go_round
        case rel => exact ⟨k + 1, by omega, rfl, by simp only [runS], by go_num⟩
        case measure => simp [intOf]; omega
      · have h2 : k < n' := by omega
        go_wp2_with (first | (go_at_call 9; refine (REarn_any _ _ _).mono ?_; rintro e w' ⟨rfl, rfl⟩) | (go_at_call 11; refine (RTake_any _ _ _).mono ?_; rintro e w' ⟨rfl, rfl⟩) | (go_at_call 20; with_reducible refine (Rat_any _ _ _ _ _ _ h).mono ?_; rintro e w' ⟨rfl, rfl⟩) | (go_at_call 20; with_reducible refine (Rat_any _ _ _ _ _ _ h').mono ?_; rintro e w' ⟨rfl, rfl⟩))
        go_round
        case rel => exact ⟨k + 1, by omega, rfl, by simp only [runS], by go_num⟩
        case measure => simp [intOf]; omega
    · have h1 : ¬ k < n := by omega
      have h2 : ¬ k < n' := by omega
      go_wp2
      go_ret2
      obtain rfl : k = max n n' := by omega
      exact ⟨rfl, rfl⟩

theorem fixed_any (w : World) : Calls Try.prog 14 #[] w fun e w' => e = .returned (.bool true) ∧ Below w.heap.size w w' := by
  have e1 : earnD 62 5 = 64 := by decide
  have e2 : earnN 62 5 = 3 := by decide
  have e3 : takeD 5 3 = 2 := by decide
  have e4 : takeN 5 3 = 3 := by decide
  have e5 : takeD 2 9 = 0 := by decide
  have e6 : takeN 2 9 = 2 := by decide
  have e7 : (runS [3, 3] [1, 1, 9] 0 (max 2 3)).1 = 0 := by decide
  have e8 : (runS [3, 3] [1, 1, 9] 0 (max 2 3)).2 = 6 := by decide
  have e9 : (runS [] [] 99 (max 0 0)).1 = 64 := by decide
  have e10 : (runS [] [] 99 (max 0 0)).2 = 0 := by decide
  have c1 : ∀ w : World, Calls Try.prog 12 #[.int .i64 99, .slice none 0 0, .slice none 0 0] w fun e w' => e = .returned (.tuple #[.int .i64 64, .int .i64 0]) ∧ Below w.heap.size w w' := fun w => by
    have := Run_any none none 0 0 0 0 [] [] 99 w Reads.none_ Reads.none_ (by omega) (by omega)
    rw [e9, e10] at this
    exact this
  have c2 : ∀ (w : World) (a b : Nat), Blk w a 3 #[.int .i64 3, .int .i64 3] → Blk w b 3 #[.int .i64 1, .int .i64 1, .int .i64 9] → Calls Try.prog 12 #[.int .i64 0, .slice (some ⟨a, 0, none⟩) 2 2, .slice (some ⟨b, 0, none⟩) 3 3] w fun e w' => e = .returned (.tuple #[.int .i64 0, .int .i64 6]) ∧ Below w.heap.size w w' := fun w a b ha hb => by
    have := Run_any _ _ 2 2 3 3 [3, 3] [1, 1, 9] 0 w (ha.reads ha.lt) (hb.reads hb.lt) (by omega) (by omega)
    rw [e7, e8] at this
    exact this
  clear e7 e8 e9 e10
  go_enter Try.func14, Try.ntmps14
  go_wp2_with (first | (go_at_call 8; refine (Earn_any _ _ _).mono ?_; rintro e w' ⟨rfl, rfl⟩) | (go_at_call 10; refine (Take_any _ _ _).mono ?_; rintro e w' ⟨rfl, rfl⟩))
  refine (c2 _ _ _ (Blk.alloc (Blk.new _ _ _) _) (by simpa using Blk.new (w.alloc (.cells #[.int .i64 3, .int .i64 3] 3)) 3 #[.int .i64 1, .int .i64 1, .int .i64 9])).mono ?_
  rintro e w1 ⟨rfl, hb1⟩
  go_wp2_with (go_at_call 12; refine (c1 _).mono ?_; rintro e w2 ⟨rfl, hb2⟩)
  go_ret
  refine ⟨rfl, ?_⟩
  have h1 : Below w.heap.size w w1 := (((Below.refl _ _).alloc (Nat.le_refl _) _).alloc (by simp) _).trans (hb1.mono (by simp; omega))
  exact h1.trans (hb2.mono h1.size)
end Go.Proofs.Ytenflnlcoljieaa
