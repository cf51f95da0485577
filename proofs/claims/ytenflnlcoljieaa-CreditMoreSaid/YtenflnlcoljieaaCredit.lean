/- Contracts of the functions of package credit. -/
import Derived.Test.YtenflnlcoljieaaProg
import Derived.Test.YtenflnlcoljieaaBase
import Derived.WalkKit
import Derived.Lib.Hide
import Derived.WalkLawsBesides
import Derived.WalkSpells
namespace Go.Proofs.Ytenflnlcoljieaa
open Go.RowKit
attribute [local go_sem high] run_mx run_mn

def within (n m : Int) : Int := mn (mx n 0) m
theorem within_bd (n m : Int) (h : 0 ≤ m) : 0 ≤ within n m ∧ within n m ≤ m := by
  unfold within mn mx; constructor <;> (repeat' split) <;> omega

theorem within_any (n m : Int) (w : World) : Calls Try.prog 21 #[.int .i64 n, .int .i64 m] w fun e w' => e = .returned (.int .i64 (within n m)) ∧ w = w' := by
  go_enter Try.func21, Try.ntmps21
  go_wp2_with fail
  go_ret
  exact ⟨rfl, rfl⟩

theorem cut_any (n : Int) (w : World) : Calls Try.prog 18 #[.int .i64 n] w fun e w' => e = .returned (.int .i64 (within n 64)) ∧ w = w' := by
  go_enter Try.func18, Try.ntmps18
  go_wp2_with (go_at_call 21; refine (within_any _ _ _).mono ?_; rintro e w' ⟨rfl, rfl⟩)
  go_ret
  exact ⟨rfl, rfl⟩

def earnS (d r : Int) : Int := within d 64 + within r 8
def earnD (d r : Int) : Int := mn (earnS d r) 64
def earnN (d r : Int) : Int := mx (earnS d r - 64) 0
def takeN (d p : Int) : Int := mn (within d 64) (within p 8)
def takeD (d p : Int) : Int := within d 64 - takeN d p

theorem earn_any (d r : Int) (w : World) : Calls Try.prog 16 #[.int .i64 d, .int .i64 r] w fun e w' => e = .returned (.tuple #[.int .i64 (earnD d r), .int .i64 (earnN d r)]) ∧ w = w' := by
  have h1 := within_bd d 64 (by omega)
  have h2 := within_bd r 8 (by omega)
  go_enter Try.func16, Try.ntmps16
  go_wp2_with (first | (go_at_call 18; refine (cut_any _ _).mono ?_; rintro e w' ⟨rfl, rfl⟩) | (go_at_call 21; refine (within_any _ _ _).mono ?_; rintro e w' ⟨rfl, rfl⟩))
  go_ret2
  exact ⟨rfl, rfl⟩

theorem take_bd (d p : Int) : 0 ≤ takeN d p ∧ takeN d p ≤ 64 ∧ 0 ≤ takeD d p ∧ takeD d p ≤ 64 := by
  have h1 := within_bd d 64 (by omega)
  have h2 := within_bd p 8 (by omega)
  unfold takeD takeN mn; refine ⟨?_, ?_, ?_, ?_⟩ <;> (repeat' split) <;> omega
theorem earn_bd (d p : Int) : 0 ≤ earnN d p ∧ earnN d p ≤ 8 ∧ 0 ≤ earnD d p ∧ earnD d p ≤ 64 := by
  have h1 := within_bd d 64 (by omega)
  have h2 := within_bd p 8 (by omega)
  unfold earnD earnN earnS mn mx; refine ⟨?_, ?_, ?_, ?_⟩ <;> (repeat' split) <;> omega

theorem take_any (d p : Int) (w : World) : Calls Try.prog 17 #[.int .i64 d, .int .i64 p] w fun e w' => e = .returned (.tuple #[.int .i64 (takeD d p), .int .i64 (takeN d p)]) ∧ w = w' := by
  have h1 := within_bd d 64 (by omega)
  have h3 := take_bd d p
  unfold takeD takeN at h3
  go_enter Try.func17, Try.ntmps17
  go_wp2_with (first | (go_at_call 18; refine (cut_any _ _).mono ?_; rintro e w' ⟨rfl, rfl⟩) | (go_at_call 21; refine (within_any _ _ _).mono ?_; rintro e w' ⟨rfl, rfl⟩))
  go_ret2
  exact ⟨rfl, rfl⟩

theorem Earn_any (d r : Int) (w : World) : Calls Try.prog 8 #[.int .i64 d, .int .i64 r] w fun e w' => e = .returned (.tuple #[.int .i64 (earnD d r), .int .i64 (earnN d r)]) ∧ w = w' := by
  go_enter Try.func8, Try.ntmps8
  go_wp2_with (go_at_call 16; refine (earn_any _ _ _).mono ?_; rintro e w' ⟨rfl, rfl⟩)
  go_ret2
  exact ⟨rfl, rfl⟩
theorem Take_any (d r : Int) (w : World) : Calls Try.prog 10 #[.int .i64 d, .int .i64 r] w fun e w' => e = .returned (.tuple #[.int .i64 (takeD d r), .int .i64 (takeN d r)]) ∧ w = w' := by
  go_enter Try.func10, Try.ntmps10
  go_wp2_with (go_at_call 17; refine (take_any _ _ _).mono ?_; rintro e w' ⟨rfl, rfl⟩)
  go_ret2
  exact ⟨rfl, rfl⟩

/-- A slice of ints that reads as a list. -/
def Ints (w : World) (A : Option Addr) (n : Nat) (xs : List Int) : Prop := Reads w w.heap.size 1 A n (xs.map (Value.int .i64))

theorem at_any (A : Option Addr) (n c : Nat) (xs : List Int) (i : Nat) (w : World) (h : Ints w A n xs) :
    Calls Try.prog 19 #[.slice A n c, .int .i64 i] w fun e w' => e = .returned (.int .i64 (xs[i]?.getD 0)) ∧ w = w' := by
  by_cases hi : i < n
  · obtain ⟨ad, u, rfl, hb, hx, hc⟩ := h.at_ hi
    simp only [List.getElem?_map, Option.map_eq_some_iff] at hx
    obtain ⟨x, hx, rfl⟩ := hx
    have hx' : xs[i]?.getD 0 = x := by simp [hx]
    rw [hx']
    clear hx hx'
    go_enter Try.func19, Try.ntmps19
    go_wp2_with fail
    go_ret
    exact ⟨rfl, rfl⟩
  · have hx' : xs[i]?.getD 0 = 0 := by
      have := h.1
      simp at this
      simp [List.getElem?_eq_none (show xs.length ≤ i by omega)]
    rw [hx']
    clear hx'
    go_enter Try.func19, Try.ntmps19
    go_wp2_with fail
    go_ret
    exact ⟨rfl, rfl⟩
def runS (xs ys : List Int) (d : Int) : Nat → Int × Int
  | 0 => (within d 64, 0)
  | i + 1 => let p := runS xs ys d i; (takeD (earnD p.1 (xs[i]?.getD 0)) (ys[i]?.getD 0), p.2 + earnN p.1 (xs[i]?.getD 0) + takeN (earnD p.1 (xs[i]?.getD 0)) (ys[i]?.getD 0))

theorem runS_bd (xs ys : List Int) (d : Int) (i : Nat) : 0 ≤ (runS xs ys d i).2 ∧ (runS xs ys d i).2 ≤ 72 * i := by
  induction i with
  | zero => simp [runS]
  | succ i ih =>
    have := earn_bd (runS xs ys d i).1 (xs[i]?.getD 0)
    have := take_bd (earnD (runS xs ys d i).1 (xs[i]?.getD 0)) (ys[i]?.getD 0)
    simp only [runS]
    omega

theorem Ints.keep {w w' : World} {A : Option Addr} {n : Nat} {xs : List Int} (h : Ints w A n xs) (hb : Below w.heap.size w w') : Ints w' A n xs := (Reads.below h hb).more hb.size


theorem at_of {w wr : World} {A : Option Addr} {n c : Nat} {xs : List Int} {i : Nat} (h : Ints w A n xs) (hb : Below w.heap.size w wr) :
    Calls Try.prog 19 #[.slice A n c, .int .i64 i] wr fun e w' => e = .returned (.int .i64 (xs[i]?.getD 0)) ∧ wr = w' := at_any A n c xs i wr (h.keep hb)

set_option maxRecDepth 100000 in
theorem Run_any (A A' : Option Addr) (n c n' c' : Nat) (xs ys : List Int) (d : Int) (w : World) (h : Ints w A n xs) (h' : Ints w A' n' ys) (hn : n ≤ 9223372036854775) (hn' : n' ≤ 9223372036854775) :
    Calls Try.prog 12 #[.int .i64 d, .slice A n c, .slice A' n' c'] w fun e w' => e = .returned (.tuple #[.int .i64 (runS xs ys d (max n n')).1, .int .i64 (runS xs ys d (max n n')).2]) ∧ Below w.heap.size w w' := by
  go_enter Try.func12, Try.ntmps12
  go_wp2_with (go_at_call 18; refine (cut_any _ _).mono ?_; rintro e w' ⟨rfl, rfl⟩)
  go_loopw [0, 8, 21] (fun v s i wr => ∃ k : Nat, k ≤ max n n' ∧ v = .int .i64 (runS xs ys d k).1 ∧ s = .int .i64 (runS xs ys d k).2 ∧ i = .int .i64 k ∧ Below w.heap.size w wr) (fun _ _ i _ => max n n' - (intOf i).toNat)
  case atStart => exact ⟨0, by omega, rfl, rfl, rfl, Below.refl _ _⟩
  case round =>
    obtain ⟨k, hk, rfl, rfl, rfl, hB⟩ := hrel
    by_cases hlt : k < max n n'
    · have hlt' : ((k : Int) < mx n n') := by rw [mx_def]; omega
      have hbd := runS_bd xs ys d k
      have hsz := hB.size
      have hbe := earn_bd (runS xs ys d k).1 (xs[k]?.getD 0)
      have hbt := take_bd (earnD (runS xs ys d k).1 (xs[k]?.getD 0)) (ys[k]?.getD 0)
      go_wp2
      refine wp_loop_rounds 3 ?_
      rw [rounds_succ]
      go_wp2_with (first | (go_at_call 19; refine (at_of h (by repeat (first | assumption | refine Below.alloc ?_ ?_ _ | (simp; omega)))).mono ?_; rintro e w' ⟨rfl, rfl⟩) | (go_at_call 16; refine (earn_any _ _ _).mono ?_; rintro e w' ⟨rfl, rfl⟩))
      rw [rounds_succ]
      go_wp2_with (first | (go_at_call 19; refine (at_of h' (by repeat (first | assumption | refine Below.alloc ?_ ?_ _ | (simp; omega)))).mono ?_; rintro e w' ⟨rfl, rfl⟩) | (go_at_call 17; refine (take_any _ _ _).mono ?_; rintro e w' ⟨rfl, rfl⟩))
      rw [rounds_succ]
      go_wp2
      go_roundw
      case rel => exact ⟨k + 1, by omega, rfl, by simp only [runS], by go_num, by repeat (first | assumption | refine Below.alloc ?_ ?_ _ | (simp; omega))⟩
      case measure => simp [intOf]; omega
    · have hlt' : ¬ ((k : Int) < mx n n') := by rw [mx_def]; omega
      go_wp2
      go_ret2
      obtain rfl : k = max n n' := by omega
      exact ⟨rfl, hB⟩
end Go.Proofs.Ytenflnlcoljieaa
