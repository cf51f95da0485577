/- What the laws of this seat lean on, part 18. -/
import Derived.Test.YthlbciinpidedaaGreatZK17
import Derived.Laws.Entries
import Derived.Test.YthlbciinpidedaaGreatZK8
import Derived.Test.YthlbciinpidedaaGreatZK16
/- check.Conf and Sectors. -/
namespace Go.Proofs.YthlbciinpidedaaGreat
set_option linter.unusedSimpArgs false
set_option linter.unusedVariables false
set_option maxRecDepth 100000
open Go.RowKit
attribute [local go_sem high] run_mx run_mn
theorem run_store_func (P : Program) (w : World) (a : Addr) (m : Mode) (f : Fn) (x y : Array Value) : (store a (.func f x y) m).run P w = stored P w a (.func f x y) m := run_store P w a _ m rfl
attribute [local go_sem] run_store_func
abbrev fieldRow : Array Value := #[.func (.func 129) #[] #[], .int .i64 4, .int .i64 16, .func (.func 130) #[] #[], .int .i64 1, .int .i64 30, .func (.func 131) #[] #[], .int .i64 0, .int .i64 8]
def Cnf.ok (c : Cnf) : Nat → Bool
  | 0 => true
  | 1 => !(decide (c.segs < 4) || decide (16 < c.segs))
  | 2 => !(decide (c.segs < 4) || decide (16 < c.segs)) && !(decide (c.slots < 1) || decide (30 < c.slots))
  | _ => !(decide (c.segs < 4) || decide (16 < c.segs)) && !(decide (c.slots < 1) || decide (30 < c.slots)) && !(decide (c.rate < 0) || decide (8 < c.rate))
theorem Cnf.may_eq (c : Cnf) : c.may = (c.ok 3 && shareOK c.share) := by
  unfold Cnf.may Cnf.ok
  congr 1
  rw [Bool.eq_iff_iff]
  simp only [Bool.and_eq_true, Bool.not_eq_true', Bool.or_eq_false_iff, decide_eq_true_eq, decide_eq_false_iff_not]
  omega
set_option maxHeartbeats 8000000 in
theorem Conf_any (c : Cnf) (hb : c.share < 18446744073709551616) (w : World) : Calls Tryz.prog 97 #[.agg c.cells] w fun e w' => e = .returned (.int .i64 (if c.may = true then 0 else 1)) ∧ Newer w w' := by
  have hmf : ∀ (fn : Fn) (first cap : Array Value) (w : World), (Instr.makeFunc fn first cap).run Tryz.prog w = .ok (.func fn first cap) w := fun _ _ _ _ => rfl
  have hS := Now.pushCells (Now.pushCells (Sep.start w) 24 c.cells) 198 fieldRow
  have hB : Newer w ((w.alloc (.cells c.cells 24)).alloc (.cells fieldRow 198)) := ((Newer.refl w).alloc _).alloc _
  simp only [World.size_alloc] at hS
  have hc0 := Now.blk (pre := [_]) hS
  have hf0 := Now.blk (pre := []) hS
  clear hS
  rw [c.may_eq]
  obtain ⟨ans, hans⟩ : ∃ ans : Int, (if (c.ok 3 && shareOK c.share) = true then (0 : Int) else 1) = ans := ⟨_, rfl⟩
  rw [hans]
  have HANS := Lib.hid hans
  clear hans
  go_enter Tryz.func97, Tryz.ntmps97
  go_wp2_with fail
  go_loopw [14] (fun i wr => ∃ k : Nat, k ≤ 3 ∧ i = .int .i64 k ∧ c.ok k = true ∧ Blk wr w.heap.size 24 c.cells ∧ Blk wr (w.heap.size + 1) 198 fieldRow ∧ Newer w wr) (fun i _ => 3 - (intOf i).toNat)
  case atStart => exact ⟨0, by omega, rfl, rfl, hc0, hf0, hB⟩
  case round =>
    clear hc0 hf0 hB
    obtain ⟨k, hk, rfl, hok, hc, hf, hN⟩ := hrel
    have hcs : k = 0 ∨ k = 1 ∨ k = 2 ∨ k = 3 := by omega
    have c0 : wr.cell? ⟨w.heap.size, 0, none⟩ = some (.int .i64 c.segs) := hc.cell 0
    have c1 : wr.cell? ⟨w.heap.size, 1, none⟩ = some (.int .i64 c.slots) := hc.cell 1
    have c2 : wr.cell? ⟨w.heap.size, 2, none⟩ = some (.float .f64 c.share) := hc.cell 2
    have c3 : wr.cell? ⟨w.heap.size, 3, none⟩ = some (.int .i64 c.rate) := hc.cell 3
    have f0 : wr.cell? ⟨w.heap.size + 1, 0, none⟩ = some (.func (.func 129) #[] #[]) := hf.cell 0
    have f1 : wr.cell? ⟨w.heap.size + 1, 1, none⟩ = some (.int .i64 4) := hf.cell 1
    have f2 : wr.cell? ⟨w.heap.size + 1, 2, none⟩ = some (.int .i64 16) := hf.cell 2
    have f3 : wr.cell? ⟨w.heap.size + 1, 3, none⟩ = some (.func (.func 130) #[] #[]) := hf.cell 3
    have f4 : wr.cell? ⟨w.heap.size + 1, 4, none⟩ = some (.int .i64 1) := hf.cell 4
    have f5 : wr.cell? ⟨w.heap.size + 1, 5, none⟩ = some (.int .i64 30) := hf.cell 5
    have f6 : wr.cell? ⟨w.heap.size + 1, 6, none⟩ = some (.func (.func 131) #[] #[]) := hf.cell 6
    have f7 : wr.cell? ⟨w.heap.size + 1, 7, none⟩ = some (.int .i64 0) := hf.cell 7
    have f8 : wr.cell? ⟨w.heap.size + 1, 8, none⟩ = some (.int .i64 8) := hf.cell 8
    rcases hcs with rfl | rfl | rfl | rfl
    · have hq := fun v (h : Newer wr v) => Conf1_a c 4 16 w.heap.size v (hc.below h hc.lt)
      obtain ⟨bw, hbw⟩ : ∃ bw, (decide (c.segs < 4) || decide (16 < c.segs)) = bw := ⟨_, rfl⟩
      rw [hbw] at hq
      have hz : ((0 : Nat) : Int) = 0 := rfl
      simp only [hz]
      have HOK := Lib.hid hok
      have HBW := Lib.hid hbw
      clear hok hbw hz hk
      cases bw with
      | true =>
        go_wp2_with (go_at_call 128; (with_reducible refine (hq _ ((Newer.refl wr).alloc _)).mono ?_); rintro e w1 ⟨rfl, hB1⟩)
        go_ret
        exact ⟨by rw [← HANS.out, show (c.ok 3 && shareOK c.share) = false by unfold Cnf.ok; rw [HBW.out]; simp]; rfl, (hN.alloc _).trans hB1⟩
      | false =>
        go_wp2_with (go_at_call 128; (with_reducible refine (hq _ ((Newer.refl wr).alloc _)).mono ?_); rintro e w1 ⟨rfl, hB1⟩)
        have hB2 := ((Newer.refl wr).alloc _).trans hB1
        go_roundw
        case rel => exact ⟨1, by omega, rfl, by (unfold Cnf.ok; rw [HBW.out]; rfl), hc.below hB2 hc.lt, hf.below hB2 hf.lt, hN.trans hB2⟩
        case measure => simp [intOf]
    · have hq := fun v (h : Newer wr v) => Conf1_b c 1 30 w.heap.size v (hc.below h hc.lt)
      obtain ⟨bw, hbw⟩ : ∃ bw, (decide (c.slots < 1) || decide (30 < c.slots)) = bw := ⟨_, rfl⟩
      rw [hbw] at hq
      have hz : ((1 : Nat) : Int) = 1 := rfl
      simp only [hz]
      have HOK := Lib.hid hok
      have HBW := Lib.hid hbw
      clear hok hbw hz hk
      cases bw with
      | true =>
        go_wp2_with (go_at_call 128; (with_reducible refine (hq _ ((Newer.refl wr).alloc _)).mono ?_); rintro e w1 ⟨rfl, hB1⟩)
        go_ret
        exact ⟨by rw [← HANS.out, show (c.ok 3 && shareOK c.share) = false by unfold Cnf.ok; rw [HBW.out]; simp]; rfl, (hN.alloc _).trans hB1⟩
      | false =>
        go_wp2_with (go_at_call 128; (with_reducible refine (hq _ ((Newer.refl wr).alloc _)).mono ?_); rintro e w1 ⟨rfl, hB1⟩)
        have hB2 := ((Newer.refl wr).alloc _).trans hB1
        go_roundw
        case rel => exact ⟨2, by omega, rfl, by (show (c.ok 1 && !(decide (c.slots < 1) || decide (30 < c.slots))) = true; rw [HOK.out, HBW.out]; rfl), hc.below hB2 hc.lt, hf.below hB2 hf.lt, hN.trans hB2⟩
        case measure => simp [intOf]
    · have hq := fun v (h : Newer wr v) => Conf1_c c 0 8 w.heap.size v (hc.below h hc.lt)
      obtain ⟨bw, hbw⟩ : ∃ bw, (decide (c.rate < 0) || decide (8 < c.rate)) = bw := ⟨_, rfl⟩
      rw [hbw] at hq
      have hz : ((2 : Nat) : Int) = 2 := rfl
      simp only [hz]
      have HOK := Lib.hid hok
      have HBW := Lib.hid hbw
      clear hok hbw hz hk
      cases bw with
      | true =>
        go_wp2_with (go_at_call 128; (with_reducible refine (hq _ ((Newer.refl wr).alloc _)).mono ?_); rintro e w1 ⟨rfl, hB1⟩)
        go_ret
        exact ⟨by rw [← HANS.out, show (c.ok 3 && shareOK c.share) = false by unfold Cnf.ok; rw [HBW.out]; simp]; rfl, (hN.alloc _).trans hB1⟩
      | false =>
        go_wp2_with (go_at_call 128; (with_reducible refine (hq _ ((Newer.refl wr).alloc _)).mono ?_); rintro e w1 ⟨rfl, hB1⟩)
        have hB2 := ((Newer.refl wr).alloc _).trans hB1
        go_roundw
        case rel => exact ⟨3, by omega, rfl, by (show (c.ok 2 && !(decide (c.rate < 0) || decide (8 < c.rate))) = true; rw [HOK.out, HBW.out]; rfl), hc.below hB2 hc.lt, hf.below hB2 hf.lt, hN.trans hB2⟩
        case measure => simp [intOf]
    · have hs := fun v => Share_one c.share hb v
      have hz : ((3 : Nat) : Int) = 3 := rfl
      simp only [hz]
      have HOK := Lib.hid hok
      clear hok hz hk
      obtain ⟨sv, hsv⟩ : ∃ sv, shareOK c.share = sv := ⟨_, rfl⟩
      rw [hsv] at hs
      have HSV := Lib.hid hsv
      clear hsv
      have hfin : Hid ((if (c.ok 3 && shareOK c.share) = true then (0 : Int) else 1) = if sv = true then 0 else 1) := Lib.hid (by rw [HOK.out, HSV.out]; cases sv <;> rfl)
      clear HOK HSV
      cases sv with
      | true =>
        go_wp2_with (go_at_call 132; (with_reducible refine (hs _).mono ?_); rintro e w1 ⟨⟨n, rfl⟩, rfl⟩)
        go_ret
        exact ⟨by rw [← HANS.out, hfin.out]; rfl, hN⟩
      | false =>
        go_wp2_with (go_at_call 132; (with_reducible refine (hs _).mono ?_); rintro e w1 ⟨⟨n, rfl⟩, rfl⟩)
        go_ret
        exact ⟨by rw [← HANS.out, hfin.out]; rfl, hN⟩
def Cnf.sectors (c : Cnf) : Int := if c.may = true then 2 + c.segs * (c.slots + 1) else 0
theorem Cnf.may_in {c : Cnf} (h : c.may = true) : (4 ≤ c.segs ∧ c.segs ≤ 16) ∧ (1 ≤ c.slots ∧ c.slots ≤ 30) := by
  unfold Cnf.may at h
  simp only [Bool.and_eq_true, decide_eq_true_eq] at h
  omega
theorem sec_bound (a b : Int) (ha : 4 ≤ a ∧ a ≤ 16) (hb : 1 ≤ b ∧ b ≤ 30) : 8 ≤ a * (b + 1) ∧ a * (b + 1) ≤ 496 := by
  have h1 : 4 * 2 ≤ a * (b + 1) := Int.mul_le_mul ha.1 (by omega) (by omega) (by omega)
  have h2 : a * (b + 1) ≤ 16 * 31 := Int.mul_le_mul ha.2 (by omega) (by omega) (by omega)
  omega
set_option maxHeartbeats 8000000 in
theorem Sectors_any (c : Cnf) (hb : c.share < 18446744073709551616) (w : World) : Calls Tryz.prog 99 #[.agg c.cells] w fun e w' => e = .returned (.int .i64 c.sectors) ∧ Newer w w' := by
  have hq := fun v => Conf_any c hb v
  have hc := Blk.new w 24 c.cells
  unfold Cnf.sectors
  cases hm : c.may with
  | false =>
    rw [hm] at hq
    rw [if_neg (by simp)]
    clear hm
    go_enter Tryz.func99, Tryz.ntmps99
    go_wp2_with (go_at_call 97; (with_reducible refine (hq _).mono ?_); rintro e w1 ⟨rfl, hB⟩)
    go_ret
    exact ⟨rfl, ((Newer.refl w).alloc _).trans hB⟩
  | true =>
    rw [hm] at hq
    rw [if_pos rfl]
    obtain ⟨hs, hl⟩ := Cnf.may_in hm
    have hbd := sec_bound c.segs c.slots hs hl
    have hw1 : IntKind.i64.wrap (c.slots + 1) = c.slots + 1 := IntWalk.i64_in _ (by omega)
    have hw2 : IntKind.i64.wrap (c.segs * (c.slots + 1)) = c.segs * (c.slots + 1) := IntWalk.i64_in _ (by omega)
    have hw3 : IntKind.i64.wrap (2 + c.segs * (c.slots + 1)) = 2 + c.segs * (c.slots + 1) := IntWalk.i64_in _ (by omega)
    have hv1 : wrap64 (c.slots + 1) = c.slots + 1 := IntWalk.wrap64_in _ (by omega)
    have hv2 : wrap64 (c.segs * (c.slots + 1)) = c.segs * (c.slots + 1) := IntWalk.wrap64_in _ (by omega)
    have hv3 : wrap64 (2 + c.segs * (c.slots + 1)) = 2 + c.segs * (c.slots + 1) := IntWalk.wrap64_in _ (by omega)
    clear hm hbd hs hl
    go_enter Tryz.func99, Tryz.ntmps99
    go_wp2_with (go_at_call 97; (with_reducible refine (hq _).mono ?_); rintro e w1 ⟨rfl, hB⟩; have hc1 := hc.below hB hc.lt; have c0 : w1.cell? ⟨w.heap.size, 0, none⟩ = some (.int .i64 c.segs) := hc1.cell 0; have c1 : w1.cell? ⟨w.heap.size, 1, none⟩ = some (.int .i64 c.slots) := hc1.cell 1; clear hq)
    go_ret
    exact ⟨rfl, ((Newer.refl w).alloc _).trans hB⟩
end Go.Proofs.YthlbciinpidedaaGreat
/- The document's Kind, May and Sectors; law09's Small. -/
namespace Go.Proofs.YthlbciinpidedaaGreat
set_option linter.unusedSimpArgs false
set_option linter.unusedVariables false
set_option maxRecDepth 100000
open Go.RowKit
attribute [local go_sem high] run_mx run_mn
theorem kind_parts (b : Nat) (hb : b < 18446744073709551616) : kindB b =
    if b / 4503599627370496 % 2048 = 2047 then (if b % 4503599627370496 = 0 then (if 9223372036854775808 ≤ b then 1 else 6) else 0)
    else if b / 4503599627370496 % 2048 = 0 ∧ b % 4503599627370496 = 0 then (if 9223372036854775808 ≤ b then 3 else 4)
    else if 9223372036854775808 ≤ b then 2 else 5 := by
  have e : b % 9223372036854775808 = (b / 4503599627370496 % 2048) * 4503599627370496 + b % 4503599627370496 := by omega
  have h1 : b / 4503599627370496 % 2048 < 2048 := Nat.mod_lt _ (by omega)
  have h2 : b % 4503599627370496 < 4503599627370496 := Nat.mod_lt _ (by omega)
  unfold kindB
  rw [e]
  generalize b / 4503599627370496 % 2048 = h at *
  generalize b % 4503599627370496 = l at *
  by_cases c1 : h = 2047
  · rw [if_pos c1]
    by_cases c2 : l = 0
    · rw [if_pos c2, if_neg (by omega), if_pos (by omega)]
    · rw [if_neg c2, if_pos (by omega)]
  · rw [if_neg c1, if_neg (by omega), if_neg (by omega)]
    by_cases c3 : h = 0 ∧ l = 0
    · rw [if_pos c3, if_pos (by omega)]
    · rw [if_neg c3, if_neg (by omega)]
set_option maxHeartbeats 4000000 in
theorem RKind_any (b : Nat) (hb : b < 18446744073709551616) (w : World) : Calls Tryz.prog 50 #[.float .f64 b] w fun e w' => e = .returned (.int .i64 (kindB b)) ∧ w = w' := by
  have hf := run_f64bits
  rw [kind_parts b hb]
  have e1 : ((b : Int).tmod 4503599627370496) = ((b % 4503599627370496 : Nat) : Int) := by rw [Int.tmod_eq_emod_of_nonneg (by omega)]; omega
  have e2 : (IntKind.u64.wrap ((b : Int) / 4503599627370496)).tmod 2048 = ((b / 4503599627370496 % 2048 : Nat) : Int) := by rw [IntWalk.u64_in _ (by omega), Int.tmod_eq_emod_of_nonneg (by omega)]; omega
  have e3 : decide (9223372036854775808 ≤ (b : Int)) = decide (9223372036854775808 ≤ b) := decide_eq_decide.2 (by omega)
  have hL0 : (0 : Int) ≤ ((b % 4503599627370496 : Nat) : Int) := by omega
  generalize b / 4503599627370496 % 2048 = h at *
  generalize b % 4503599627370496 = l at *
  by_cases c1 : h = 2047
  · subst c1
    rw [if_pos rfl]
    have e4 : ((2047 : Nat) : Int) = 2047 := rfl
    rw [e4] at e2
    clear e4 hb
    by_cases c2 : l = 0
    · subst c2
      rw [if_pos rfl]
      have e4 : ((0 : Nat) : Int) = 0 := rfl
      rw [e4] at e1
      clear e4 hL0
      by_cases c3 : 9223372036854775808 ≤ b
      · rw [if_pos c3]
        rw [decide_eq_true c3] at e3
        clear c3
        go_enter Tryz.func50, Tryz.ntmps50
        go_wp2
        go_ret
        exact ⟨rfl, rfl⟩
      · rw [if_neg c3]
        rw [decide_eq_false c3] at e3
        clear c3
        go_enter Tryz.func50, Tryz.ntmps50
        go_wp2
        go_ret
        exact ⟨rfl, rfl⟩
    · rw [if_neg c2]
      have c4 : (0 : Int) < (l : Int) := by omega
      obtain ⟨L, hL⟩ : ∃ L : Int, (l : Int) = L := ⟨_, rfl⟩
      rw [hL] at e1 c4
      generalize decide (9223372036854775808 ≤ b) = m at *
      clear hL0 hL c2
      go_enter Tryz.func50, Tryz.ntmps50
      go_wp2
      go_ret
      exact ⟨rfl, rfl⟩
  rw [if_neg c1]
  obtain ⟨H, hH⟩ : ∃ H : Int, (h : Int) = H := ⟨_, rfl⟩
  obtain ⟨L, hL⟩ : ∃ L : Int, (l : Int) = L := ⟨_, rfl⟩
  rw [hH] at e2
  rw [hL] at e1 hL0
  have n1 : H ≠ 2047 := by omega
  clear hb
  by_cases c3 : h = 0 ∧ l = 0
  · rw [if_pos c3]
    obtain rfl : H = 0 := by omega
    obtain rfl : L = 0 := by omega
    clear hH hL hL0 c1 c3 n1
    by_cases c6 : 9223372036854775808 ≤ b
    · rw [if_pos c6]
      rw [decide_eq_true c6] at e3
      clear c6
      go_enter Tryz.func50, Tryz.ntmps50
      go_wp2
      go_ret
      exact ⟨rfl, rfl⟩
    · rw [if_neg c6]
      rw [decide_eq_false c6] at e3
      clear c6
      go_enter Tryz.func50, Tryz.ntmps50
      go_wp2
      go_ret
      exact ⟨rfl, rfl⟩
  · rw [if_neg c3]
    by_cases c5 : H = 0
    · subst c5
      have n2 : L ≠ 0 := by omega
      clear hH hL c1 c3 n1 hL0
      by_cases c6 : 9223372036854775808 ≤ b
      · rw [if_pos c6]
        rw [decide_eq_true c6] at e3
        clear c6
        go_enter Tryz.func50, Tryz.ntmps50
        go_wp2
        go_ret
        exact ⟨rfl, rfl⟩
      · rw [if_neg c6]
        rw [decide_eq_false c6] at e3
        clear c6
        go_enter Tryz.func50, Tryz.ntmps50
        go_wp2
        go_ret
        exact ⟨rfl, rfl⟩
    · clear hH hL c1 c3 hL0
      by_cases c6 : 9223372036854775808 ≤ b
      · rw [if_pos c6]
        rw [decide_eq_true c6] at e3
        clear c6
        go_enter Tryz.func50, Tryz.ntmps50
        go_wp2
        go_ret
        exact ⟨rfl, rfl⟩
      · rw [if_neg c6]
        rw [decide_eq_false c6] at e3
        clear c6
        go_enter Tryz.func50, Tryz.ntmps50
        go_wp2
        go_ret
        exact ⟨rfl, rfl⟩
set_option maxHeartbeats 8000000 in
theorem May_any (c : Cnf) (hb : c.share < 18446744073709551616) (w : World) : Calls Tryz.prog 11 #[.agg c.cells] w fun e w' => e = .returned (.bool c.may) ∧ Newer w w' := by
  have hk := fun v => RKind_any c.share hb v
  by_cases a1 : 4 ≤ c.segs
  case neg =>
    have HANS : Hid (false = c.may) := Lib.hid (by unfold Cnf.may; symm; simp only [Bool.and_eq_false_iff, decide_eq_false_iff_not]; omega)
    generalize c.may = ans at *
    go_enter Tryz.func11, Tryz.ntmps11
    go_wp2_with (go_at_call 50; (with_reducible refine (hk _).mono ?_); rintro e w1 ⟨rfl, rfl⟩)
    go_ret
    exact ⟨by rw [← HANS.out]; exact rfl, (Newer.refl w).alloc _⟩
  by_cases a2 : c.segs ≤ 16
  case neg =>
    have HANS : Hid (false = c.may) := Lib.hid (by unfold Cnf.may; symm; simp only [Bool.and_eq_false_iff, decide_eq_false_iff_not]; omega)
    generalize c.may = ans at *
    go_enter Tryz.func11, Tryz.ntmps11
    go_wp2_with (go_at_call 50; (with_reducible refine (hk _).mono ?_); rintro e w1 ⟨rfl, rfl⟩)
    go_ret
    exact ⟨by rw [← HANS.out]; exact rfl, (Newer.refl w).alloc _⟩
  by_cases a3 : 1 ≤ c.slots
  case neg =>
    have HANS : Hid (false = c.may) := Lib.hid (by unfold Cnf.may; symm; simp only [Bool.and_eq_false_iff, decide_eq_false_iff_not]; omega)
    generalize c.may = ans at *
    go_enter Tryz.func11, Tryz.ntmps11
    go_wp2_with (go_at_call 50; (with_reducible refine (hk _).mono ?_); rintro e w1 ⟨rfl, rfl⟩)
    go_ret
    exact ⟨by rw [← HANS.out]; exact rfl, (Newer.refl w).alloc _⟩
  by_cases a4 : c.slots ≤ 30
  case neg =>
    have HANS : Hid (false = c.may) := Lib.hid (by unfold Cnf.may; symm; simp only [Bool.and_eq_false_iff, decide_eq_false_iff_not]; omega)
    generalize c.may = ans at *
    go_enter Tryz.func11, Tryz.ntmps11
    go_wp2_with (go_at_call 50; (with_reducible refine (hk _).mono ?_); rintro e w1 ⟨rfl, rfl⟩)
    go_ret
    exact ⟨by rw [← HANS.out]; exact rfl, (Newer.refl w).alloc _⟩
  by_cases a5 : 0 ≤ c.rate
  case neg =>
    have HANS : Hid (false = c.may) := Lib.hid (by unfold Cnf.may; symm; simp only [Bool.and_eq_false_iff, decide_eq_false_iff_not]; omega)
    generalize c.may = ans at *
    go_enter Tryz.func11, Tryz.ntmps11
    go_wp2_with (go_at_call 50; (with_reducible refine (hk _).mono ?_); rintro e w1 ⟨rfl, rfl⟩)
    go_ret
    exact ⟨by rw [← HANS.out]; exact rfl, (Newer.refl w).alloc _⟩
  by_cases a6 : c.rate ≤ 8
  case neg =>
    have HANS : Hid (false = c.may) := Lib.hid (by unfold Cnf.may; symm; simp only [Bool.and_eq_false_iff, decide_eq_false_iff_not]; omega)
    generalize c.may = ans at *
    go_enter Tryz.func11, Tryz.ntmps11
    go_wp2_with (go_at_call 50; (with_reducible refine (hk _).mono ?_); rintro e w1 ⟨rfl, rfl⟩)
    go_ret
    exact ⟨by rw [← HANS.out]; exact rfl, (Newer.refl w).alloc _⟩
  have hbase : c.may = shareOK c.share := by
    unfold Cnf.may
    rw [decide_eq_true ⟨a1, a2⟩, decide_eq_true ⟨a3, a4⟩, decide_eq_true ⟨a5, a6⟩]; rfl
  have hkr := kind_range c.share
  have hk3 : kindB c.share = 3 ∨ kindB c.share = 4 → shareOK c.share = true := fun h => by
    have hz : c.share % 9223372036854775808 = 0 := by
      unfold kindB at h
      split at h
      · omega
      · split at h
        · split at h <;> omega
        · split at h
          · omega
          · split at h <;> omega
    have ho : Ieee.double.order c.share 4607182418800017408 ≠ some .gt := by
      have hd : c.share = 0 ∨ c.share = 9223372036854775808 := by omega
      rcases hd with hd | hd <;> rw [hd] <;> decide
    unfold shareOK
    rw [decide_eq_true (by omega), beq_eq_false_iff_ne.2 ho]; rfl
  have hleq : kindB c.share = 5 → (FloatKind.f64.format.order c.share 4607182418800017408 == some .lt || FloatKind.f64.format.order c.share 4607182418800017408 == some .eq) = shareOK c.share := fun h => by
    show (Ieee.double.order c.share 4607182418800017408 == some .lt || Ieee.double.order c.share 4607182418800017408 == some .eq) = _
    unfold shareOK
    rw [h]
    have hfn : c.share % 9223372036854775808 < 9218868437227405312 := by
      unfold kindB at h
      split at h
      · omega
      · split at h
        · split at h <;> omega
        · omega
    unfold Ieee.Format.order
    rw [read_num _ hb hfn, read_num 4607182418800017408 (by omega) (by omega), order_num]
    generalize compare (α := Int) _ _ = o
    cases o <;> rfl
  by_cases k3 : kindB c.share = 3
  · have hs := hk3 (.inl k3)
    rw [k3] at hk
    clear hk3 hleq hkr
    have HANS : Hid (true = c.may) := Lib.hid (by rw [hbase]; rw [hs])
    clear hbase
    generalize c.may = ans at *
    go_enter Tryz.func11, Tryz.ntmps11
    go_wp2_with (go_at_call 50; (with_reducible refine (hk _).mono ?_); rintro e w1 ⟨rfl, rfl⟩)
    go_ret
    exact ⟨by rw [← HANS.out]; exact rfl, (Newer.refl w).alloc _⟩
  by_cases k4 : kindB c.share = 4
  · have hs := hk3 (.inr k4)
    rw [k4] at hk
    clear hk3 hleq hkr
    have HANS : Hid (true = c.may) := Lib.hid (by rw [hbase]; rw [hs])
    clear hbase
    generalize c.may = ans at *
    go_enter Tryz.func11, Tryz.ntmps11
    go_wp2_with (go_at_call 50; (with_reducible refine (hk _).mono ?_); rintro e w1 ⟨rfl, rfl⟩)
    go_ret
    exact ⟨by rw [← HANS.out]; exact rfl, (Newer.refl w).alloc _⟩
  clear hk3
  by_cases k5 : kindB c.share = 5
  · have hle := hleq k5
    rw [k5] at hk
    clear hleq hkr
    cases hs : shareOK c.share with
    | true =>
      rw [hs] at hle
      have HANS : Hid (true = c.may) := Lib.hid (by rw [hbase]; rw [hs])
      clear hbase
      generalize c.may = ans at *
      go_enter Tryz.func11, Tryz.ntmps11
      go_wp2_with (go_at_call 50; (with_reducible refine (hk _).mono ?_); rintro e w1 ⟨rfl, rfl⟩)
      go_ret
      exact ⟨by rw [← HANS.out]; exact rfl, (Newer.refl w).alloc _⟩
    | false =>
      rw [hs] at hle
      have HANS : Hid (false = c.may) := Lib.hid (by rw [hbase]; rw [hs])
      clear hbase
      generalize c.may = ans at *
      go_enter Tryz.func11, Tryz.ntmps11
      go_wp2_with (go_at_call 50; (with_reducible refine (hk _).mono ?_); rintro e w1 ⟨rfl, rfl⟩)
      go_ret
      exact ⟨by rw [← HANS.out]; exact rfl, (Newer.refl w).alloc _⟩
  have hs : shareOK c.share = false := by
    by_cases h6 : kindB c.share = 6
    · have hi := kind_6.1 h6
      unfold shareOK
      rw [order_inf _ _ hb hi.1 (by omega) (by omega), if_neg (by omega)]; simp
    · unfold shareOK
      rw [decide_eq_false (by omega)]; rfl
  clear hleq
  have HKR := Lib.hid hkr
  clear hkr
  have HANS : Hid (false = c.may) := Lib.hid (by rw [hbase]; rw [hs])
  clear hbase
  generalize c.may = ans at *
  go_enter Tryz.func11, Tryz.ntmps11
  go_wp2_with (go_at_call 50; (with_reducible refine (hk _).mono ?_); rintro e w1 ⟨rfl, rfl⟩)
  go_ret
  exact ⟨by rw [← HANS.out]; show Ending.returned (.bool (kindB c.share == 3 || kindB c.share == 4)) = _; rw [beq_eq_false_iff_ne.2 k3, beq_eq_false_iff_ne.2 k4]; rfl, (Newer.refl w).alloc _⟩
end Go.Proofs.YthlbciinpidedaaGreat
/- The document's Sectors; law09's Small. -/
namespace Go.Proofs.YthlbciinpidedaaGreat
set_option linter.unusedSimpArgs false
set_option linter.unusedVariables false
set_option maxRecDepth 100000
open Go.RowKit
attribute [local go_sem high] run_mx run_mn
theorem run_store_flt (P : Program) (w : World) (a : Addr) (m : Mode) (k : FloatKind) (b : Nat) : (store a (.float k b) m).run P w = stored P w a (.float k b) m := run_store P w a _ m rfl
attribute [local go_sem] run_store_flt
set_option maxHeartbeats 8000000 in
theorem RSectors_any (c : Cnf) (hb : c.share < 18446744073709551616) (w : World) : Calls Tryz.prog 14 #[.agg c.cells] w fun e w' => e = .returned (.int .i64 c.sectors) ∧ Newer w w' := by
  have hq := fun v => May_any c hb v
  have hc := Blk.new w 24 c.cells
  unfold Cnf.sectors
  cases hm : c.may with
  | false =>
    rw [hm] at hq
    rw [if_neg (by simp)]
    clear hm
    go_enter Tryz.func14, Tryz.ntmps14
    go_wp2_with (go_at_call 11; (with_reducible refine (hq _).mono ?_); rintro e w1 ⟨rfl, hB⟩)
    go_ret
    exact ⟨rfl, ((Newer.refl w).alloc _).trans hB⟩
  | true =>
    rw [hm] at hq
    rw [if_pos rfl]
    obtain ⟨hs, hl⟩ := Cnf.may_in hm
    have hbd := sec_bound c.segs c.slots hs hl
    have hw1 : IntKind.i64.wrap (c.slots + 1) = c.slots + 1 := IntWalk.i64_in _ (by omega)
    have hw2 : IntKind.i64.wrap (c.segs * (c.slots + 1)) = c.segs * (c.slots + 1) := IntWalk.i64_in _ (by omega)
    have hw3 : IntKind.i64.wrap (2 + c.segs * (c.slots + 1)) = 2 + c.segs * (c.slots + 1) := IntWalk.i64_in _ (by omega)
    have hv1 : wrap64 (c.slots + 1) = c.slots + 1 := IntWalk.wrap64_in _ (by omega)
    have hv2 : wrap64 (c.segs * (c.slots + 1)) = c.segs * (c.slots + 1) := IntWalk.wrap64_in _ (by omega)
    have hv3 : wrap64 (2 + c.segs * (c.slots + 1)) = 2 + c.segs * (c.slots + 1) := IntWalk.wrap64_in _ (by omega)
    clear hm hbd hs hl
    go_enter Tryz.func14, Tryz.ntmps14
    go_wp2_with (go_at_call 11; (with_reducible refine (hq _).mono ?_); rintro e w1 ⟨rfl, hB⟩; have hc1 := hc.below hB hc.lt; have c0 : w1.cell? ⟨w.heap.size, 0, none⟩ = some (.int .i64 c.segs) := hc1.cell 0; have c1 : w1.cell? ⟨w.heap.size, 1, none⟩ = some (.int .i64 c.slots) := hc1.cell 1; clear hq)
    go_ret
    exact ⟨rfl, ((Newer.refl w).alloc _).trans hB⟩
def Cnf.small (c : Cnf) : Cnf := if c.may = true then { c with segs := 4 + c.segs % 3, slots := 1 + c.slots % 5 } else c
theorem Cnf.small_may (c : Cnf) : c.small.may = c.may := by
  unfold Cnf.small
  cases hm : c.may with
  | false => rw [if_neg (by simp), hm]
  | true =>
    rw [if_pos rfl]
    unfold Cnf.may at hm
    simp only [Bool.and_eq_true, decide_eq_true_eq] at hm
    obtain ⟨⟨⟨h1, h2⟩, h3⟩, h4⟩ := hm
    show (decide (4 ≤ 4 + c.segs % 3 ∧ 4 + c.segs % 3 ≤ 16) && decide (1 ≤ 1 + c.slots % 5 ∧ 1 + c.slots % 5 ≤ 30) && decide (0 ≤ c.rate ∧ c.rate ≤ 8) && shareOK c.share) = true
    rw [decide_eq_true (by omega), decide_eq_true (by omega), decide_eq_true h3, h4]
    rfl
theorem Cnf.small_in {c : Cnf} (h : c.may = true) : (4 ≤ c.small.segs ∧ c.small.segs ≤ 6) ∧ (1 ≤ c.small.slots ∧ c.small.slots ≤ 5) := by
  unfold Cnf.small
  rw [if_pos h]
  show (4 ≤ 4 + c.segs % 3 ∧ 4 + c.segs % 3 ≤ 6) ∧ (1 ≤ 1 + c.slots % 5 ∧ 1 + c.slots % 5 ≤ 5)
  omega
theorem Cnf.small_share (c : Cnf) : c.small.share = c.share := by unfold Cnf.small; split <;> rfl
set_option maxHeartbeats 8000000 in
theorem Small_any (c : Cnf) (hb : c.share < 18446744073709551616) (w : World) : Calls Tryz.prog 10 #[.agg c.cells] w fun e w' => e = .returned (.agg c.small.cells) ∧ Newer w w' := by
  have hq := fun v => May_any c hb v
  have hS := Now.pushCells (Now.pushCells (Sep.start w) 24 c.cells) 24 #[.int .i64 0, .int .i64 0, .float .f64 0, .int .i64 0]
  simp only [World.size_alloc] at hS
  unfold Cnf.small
  cases hm : c.may with
  | false =>
    rw [hm] at hq
    rw [if_neg (by simp)]
    clear hm
    go_enter Tryz.func10, Tryz.ntmps10
    go_wp2_with (go_at_call 11; (with_reducible refine (hq _).mono ?_); rintro e w1 ⟨rfl, hB⟩; have hS1 := Now.below hS hB; have hc := Now.blk (pre := [_]) hS1; have hr := Now.blk (pre := []) hS1; have c0 : w1.cell? ⟨w.heap.size, 0, none⟩ = some (.int .i64 c.segs) := hc.cell 0; have c1 : w1.cell? ⟨w.heap.size, 1, none⟩ = some (.int .i64 c.slots) := hc.cell 1; have c2 : w1.cell? ⟨w.heap.size, 2, none⟩ = some (.float .f64 c.share) := hc.cell 2; have c3 : w1.cell? ⟨w.heap.size, 3, none⟩ = some (.int .i64 c.rate) := hc.cell 3; have r0 : w1.cell? ⟨w.heap.size + 1, 0, none⟩ = some (.int .i64 0) := hr.cell 0; have r1 : w1.cell? ⟨w.heap.size + 1, 1, none⟩ = some (.int .i64 0) := hr.cell 1; have r2 : w1.cell? ⟨w.heap.size + 1, 2, none⟩ = some (.float .f64 0) := hr.cell 2; have r3 : w1.cell? ⟨w.heap.size + 1, 3, none⟩ = some (.int .i64 0) := hr.cell 3; have fr := fun k => hr.frozen k; clear hq hS hB hc hr)
    have hS2 := Now.set_ (pre := []) (Now.set_ (pre := []) (Now.set_ (pre := []) (Now.set_ (pre := []) hS1 0 (.int .i64 c.segs)) 1 (.int .i64 c.slots)) 2 (.float .f64 c.share)) 3 (.int .i64 c.rate)
    refine bodyPost_ret (v := .agg c.cells) ?_ rfl ⟨rfl, Sep.base hS2⟩
    exact results_cell_row rfl _ _ _ _ _ (0, 0) _ (by simp) (Now.blk (pre := []) hS2) Tryz.underlying24 rfl (by kernel_rfl)
  | true =>
    rw [hm] at hq
    rw [if_pos rfl]
    obtain ⟨hs, hl⟩ := Cnf.may_in hm
    have hm1 : c.segs.tmod 3 = c.segs % 3 := Int.tmod_eq_emod_of_nonneg (by omega)
    have hm2 : c.slots.tmod 5 = c.slots % 5 := Int.tmod_eq_emod_of_nonneg (by omega)
    have hb1 : 0 ≤ c.segs % 3 ∧ c.segs % 3 < 3 := by omega
    have hb2 : 0 ≤ c.slots % 5 ∧ c.slots % 5 < 5 := by omega
    generalize c.segs % 3 = x at *
    generalize c.slots % 5 = y at *
    have hv1 : wrap64 (4 + x) = 4 + x := IntWalk.wrap64_in _ (by omega)
    have hv2 : wrap64 (1 + y) = 1 + y := IntWalk.wrap64_in _ (by omega)
    clear hm hs hl hb1 hb2
    go_enter Tryz.func10, Tryz.ntmps10
    go_wp2_with (go_at_call 11; (with_reducible refine (hq _).mono ?_); rintro e w1 ⟨rfl, hB⟩; have hS1 := Now.below hS hB; have hc := Now.blk (pre := [_]) hS1; have hr := Now.blk (pre := []) hS1; have c0 : w1.cell? ⟨w.heap.size, 0, none⟩ = some (.int .i64 c.segs) := hc.cell 0; have c1 : w1.cell? ⟨w.heap.size, 1, none⟩ = some (.int .i64 c.slots) := hc.cell 1; have c2 : w1.cell? ⟨w.heap.size, 2, none⟩ = some (.float .f64 c.share) := hc.cell 2; have c3 : w1.cell? ⟨w.heap.size, 3, none⟩ = some (.int .i64 c.rate) := hc.cell 3; have r0 : w1.cell? ⟨w.heap.size + 1, 0, none⟩ = some (.int .i64 0) := hr.cell 0; have r1 : w1.cell? ⟨w.heap.size + 1, 1, none⟩ = some (.int .i64 0) := hr.cell 1; have r2 : w1.cell? ⟨w.heap.size + 1, 2, none⟩ = some (.float .f64 0) := hr.cell 2; have r3 : w1.cell? ⟨w.heap.size + 1, 3, none⟩ = some (.int .i64 0) := hr.cell 3; have fc := fun k => hc.frozen k; have fr := fun k => hr.frozen k; clear hq hS hB hc hr)
    have hS2 := Now.set_ (pre := []) (Now.set_ (pre := []) (Now.set_ (pre := []) (Now.set_ (pre := []) (Now.set_ (pre := [_]) (Now.set_ (pre := [_]) hS1 0 (.int .i64 (4 + x))) 1 (.int .i64 (1 + y))) 0 (.int .i64 (4 + x))) 1 (.int .i64 (1 + y))) 2 (.float .f64 c.share)) 3 (.int .i64 c.rate)
    refine bodyPost_ret (v := .agg #[.int .i64 (4 + x), .int .i64 (1 + y), .float .f64 c.share, .int .i64 c.rate]) ?_ rfl ⟨rfl, Sep.base hS2⟩
    exact results_cell_row rfl _ _ _ _ _ (0, 0) _ (by simp) (Now.blk (pre := []) hS2) Tryz.underlying24 rfl (by kernel_rfl)
end Go.Proofs.YthlbciinpidedaaGreat
/- The contract of seglog.Format. -/
namespace Go.Proofs.YthlbciinpidedaaGreat
set_option linter.unusedSimpArgs false
set_option linter.unusedVariables false
set_option maxRecDepth 100000
open Go.RowKit
attribute [local go_sem high] run_mx run_mn
set_option maxHeartbeats 8000000 in
theorem Format_arg (gd : Nat) (d : Dsk) (c : Cnf) (hb : c.share < 18446744073709551616) (hm : c.may = false) {S0 : Nat → Prop} {w0 w : World} {L : List Thing} (hS : Now S0 w0 w (dskT gd d :: L)) :
    Calls Tryz.prog 54 #[.pointer (some ⟨gd, 0, none⟩), .agg c.cells] w fun e w' => e = .returned (.tuple #[.pointer none, .int .i64 1]) ∧ Now S0 w0 w' (dskT gd d :: L) := by
  have hq := fun v => Conf_any c hb v
  rw [hm] at hq
  clear hm
  have hS1 := Now.back (pre := [_]) (Now.pushCells hS 24 c.cells)
  have hc := Now.blk (pre := [_]) hS1
  have c0 : _ = some (Value.int .i64 c.segs) := hc.cell 0
  have c1 : _ = some (Value.int .i64 c.slots) := hc.cell 1
  have c2 : _ = some (Value.float .f64 c.share) := hc.cell 2
  have c3 : _ = some (Value.int .i64 c.rate) := hc.cell 3
  clear hc hS
  go_enter Tryz.func54, Tryz.ntmps54
  go_wp2_with (go_at_call 97; (with_reducible refine (hq _).mono ?_); rintro e w1 ⟨rfl, hB⟩; have hS2 := Now.below hS1 hB; clear hS1 hq c0 c1 c2 c3)
  refine bodyPost_ret (v := .tuple #[.pointer none, .int .i64 1]) ?_ rfl ⟨rfl, Now.drop (pre := [_]) hS2⟩
  rw [results_tmp2 rfl]
  simp
set_option maxHeartbeats 8000000 in
theorem Format_full (gd : Nat) (d : Dsk) (c : Cnf) (hb : c.share < 18446744073709551616) (hm : c.may = true) (hn : d.n < c.sectors) {S0 : Nat → Prop} {w0 w : World} {L : List Thing} (hS : Now S0 w0 w (dskT gd d :: L)) :
    Calls Tryz.prog 54 #[.pointer (some ⟨gd, 0, none⟩), .agg c.cells] w fun e w' => e = .returned (.tuple #[.pointer none, .int .i64 10]) ∧ Now S0 w0 w' (dskT gd d :: L) := by
  have hq := fun v => Conf_any c hb v
  rw [hm] at hq
  clear hm
  have hS1 := Now.back (pre := [_]) (Now.pushCells hS 24 c.cells)
  have hc := Now.blk (pre := [_]) hS1
  have c0 : _ = some (Value.int .i64 c.segs) := hc.cell 0
  have c1 : _ = some (Value.int .i64 c.slots) := hc.cell 1
  have c2 : _ = some (Value.float .f64 c.share) := hc.cell 2
  have c3 : _ = some (Value.int .i64 c.rate) := hc.cell 3
  clear hc hS
  go_enter Tryz.func54, Tryz.ntmps54
  go_wp2_with (go_at_call 97; (with_reducible refine (hq _).mono ?_); rintro e w1 ⟨rfl, hB⟩; have hS2 := Now.below hS1 hB; clear hS1 hq c0 c1 c2 c3)
  have hc := Now.blk (pre := [_]) hS2
  obtain ⟨SD, hSD⟩ := Now.get (pre := []) hS2
  have hcell : ∀ v, Newer w1.drew v → v.cell? ⟨w.heap.size, 0, none⟩ = some (.int .i64 c.segs) ∧ v.cell? ⟨w.heap.size, 1, none⟩ = some (.int .i64 c.slots) ∧ v.cell? ⟨w.heap.size, 2, none⟩ = some (.float .f64 c.share) ∧ v.cell? ⟨w.heap.size, 3, none⟩ = some (.int .i64 c.rate) := fun v hv => by
    have h2 := hc.below hv.undrew hc.lt
    exact ⟨h2.cell 0, h2.cell 1, h2.cell 2, h2.cell 3⟩
  have hln := fun v (hv : Newer w1.drew v) => NLen gd d v SD ((dskT gd d).keep hSD (Fr.of_below hv.undrew) (fun k hk hn => absurd ((dskT gd d).lt hSD hk) (Nat.not_lt.2 hn)))
  have hsc := fun v => Sectors_any c hb v
  have hS3 := hS2.drew
  clear hS2 hc hSD
  refine wp_region_ord Newer.grow [(0, true), (1, true), (2, true), (3, true), (4, true)] [] (by kernel_rfl) (by kernel_rfl) rfl (by kernel_rfl) (by intro _ _ d _ _ h; cases d <;> exact h) ?_
  iterate 5
    (apply wpOrd_take
     · exact rfl
     · intro w1 h1
       (obtain ⟨c0, c1, c2, c3⟩ := hcell w1 h1)
       go_simp
       first
         | with_reducible exact ⟨rfl, Newer.grow.refl _⟩
         | with_reducible exact hln _ h1 | with_reducible exact hsc _
     simp only [Act.put, List.setIfInBounds_toArray, List.set_cons_zero, List.set_cons_succ])
  refine wpOrd_done fun w3 h3 => ?_
  replace hS3 := Now.below hS3 h3
  clear hcell hln hsc h3
  go_wp2_with fail
  refine bodyPost_ret (v := .tuple #[.pointer none, .int .i64 10]) ?_ rfl ⟨rfl, Now.drop (pre := [_]) hS3⟩
  rw [results_tmp2 rfl]
  simp
/-- The first checkpoint. -/
def fmtC (c : Cnf) : Chk := (newTab c.segs c.slots 1).chk 1 1 1 0
theorem newTab_ok (segs slots first : Int) (h1 : 4 ≤ segs ∧ segs ≤ 16) (h2 : 1 ≤ slots ∧ slots ≤ 30) (h3 : 0 ≤ first ∧ first < 18446744073709551616) : (newTab segs slots first).Ok :=
  ⟨h1, h2, by show 1 ≤ 1; omega, by show 1 ≤ 16; omega, rfl, rfl, fun s hs => by
    have : s = 0 := by simpa [newTab] using hs
    show 0 ≤ s ∧ s < segs
    omega, by simp [newTab], fun l hl => by
    have : l = 0 := by simpa [newTab] using hl
    show 0 ≤ l ∧ l ≤ slots
    omega, fun f hf => by
    have : f = first := by simpa [newTab] using hf
    omega⟩
set_option maxHeartbeats 8000000 in
theorem Format_ok (gd : Nat) (d : Dsk) (hp : d.pend.length ≤ 1000000) (c : Cnf) (hb : c.share < 18446744073709551616) (hm : c.may = true) (hn : c.sectors ≤ d.n) (D : Dsk) (hD : ckDo d 0 ⟨(fmtC c).enc.toArray⟩ = (0, 1, D)) {S0 : Nat → Prop} {w0 w : World} {L : List Thing} (hS : Now S0 w0 w (dskT gd d :: L)) :
    Calls Tryz.prog 54 #[.pointer (some ⟨gd, 0, none⟩), .agg c.cells] w fun e w' => ∃ g, e = .returned (.tuple #[.pointer (some ⟨g, 0, none⟩), .int .i64 0]) ∧ ∃ A1 k1 A2 k2 A3 k3, Now S0 w0 w' (logParts g gd (newTab c.segs c.slots 1) A1 k1 A2 k2 A3 k3 1 1 1 D ++ L) := by
  have hq := fun v => Conf_any c hb v
  rw [hm] at hq
  obtain ⟨hs1, hs2⟩ := Cnf.may_in hm
  have hT := newTab_ok c.segs c.slots 1 hs1 hs2 (by omega)
  have hnw := fun v => New_tab c.segs c.slots 1 hs1 hs2 v
  have hck := fun g AO cO AL cL AF cF v (M : List Thing) (h : Now S0 w0 v (logParts g gd (newTab c.segs c.slots 1) AO cO AL cL AF cF 1 1 0 d ++ M)) => Checkpoint_any g gd (newTab c.segs c.slots 1) hT AO cO AL cL AF cF 1 1 0 0 d hp (by omega) (by omega) (by omega) (by omega) h
  have hat := fun AO cO AL cL AF cF v => At_any gd (newTab c.segs c.slots 1) AO cO AL cL AF cF 1 1 0 v
  change ckDo d 0 ⟨((newTab c.segs c.slots 1).chk (0 + 1) 1 1 0).enc.toArray⟩ = (0, 1, D) at hD
  simp only [hD] at hck
  clear hD hm hT hs1 hs2
  generalize newTab c.segs c.slots 1 = T at *
  have hS1 := Now.back (pre := [_]) (Now.pushCells hS 24 c.cells)
  have hc := Now.blk (pre := [_]) hS1
  have c0 : _ = some (Value.int .i64 c.segs) := hc.cell 0
  have c1 : _ = some (Value.int .i64 c.slots) := hc.cell 1
  have c2 : _ = some (Value.float .f64 c.share) := hc.cell 2
  have c3 : _ = some (Value.int .i64 c.rate) := hc.cell 3
  clear hc hS
  go_enter Tryz.func54, Tryz.ntmps54
  go_wp2_with (go_at_call 97; (with_reducible refine (hq _).mono ?_); rintro e w1 ⟨rfl, hB⟩; have hS2 := Now.below hS1 hB; clear hS1 hq c0 c1 c2 c3)
  have hc := Now.blk (pre := [_]) hS2
  obtain ⟨SD, hSD⟩ := Now.get (pre := []) hS2
  have hcell : ∀ v, Newer w1.drew v → v.cell? ⟨w.heap.size, 0, none⟩ = some (.int .i64 c.segs) ∧ v.cell? ⟨w.heap.size, 1, none⟩ = some (.int .i64 c.slots) ∧ v.cell? ⟨w.heap.size, 2, none⟩ = some (.float .f64 c.share) ∧ v.cell? ⟨w.heap.size, 3, none⟩ = some (.int .i64 c.rate) := fun v hv => by
    have h2 := hc.below hv.undrew hc.lt
    exact ⟨h2.cell 0, h2.cell 1, h2.cell 2, h2.cell 3⟩
  have hln := fun v (hv : Newer w1.drew v) => NLen gd d v SD ((dskT gd d).keep hSD (Fr.of_below hv.undrew) (fun k hk hn => absurd ((dskT gd d).lt hSD hk) (Nat.not_lt.2 hn)))
  have hsc := fun v => Sectors_any c hb v
  have hS3 := hS2.drew
  clear hS2 hc hSD
  refine wp_region_ord Newer.grow [(0, true), (1, true), (2, true), (3, true), (4, true)] [] (by kernel_rfl) (by kernel_rfl) rfl (by kernel_rfl) (by intro _ _ d _ _ h; cases d <;> exact h) ?_
  iterate 5
    (apply wpOrd_take
     · exact rfl
     · intro w1 h1
       (obtain ⟨c0, c1, c2, c3⟩ := hcell w1 h1)
       go_simp
       first
         | with_reducible exact ⟨rfl, Newer.grow.refl _⟩
         | with_reducible exact hln _ h1 | with_reducible exact hsc _
     simp only [Act.put, List.setIfInBounds_toArray, List.set_cons_zero, List.set_cons_succ])
  refine wpOrd_done fun w3 h3 => ?_
  replace hS3 := Now.below hS3 h3
  clear hcell hln hsc h3
  have hc := Now.blk (pre := [_]) hS3
  have c0 : w3.cell? ⟨w.heap.size, 0, none⟩ = some (Value.int .i64 c.segs) := hc.cell 0
  have c1 : w3.cell? ⟨w.heap.size, 1, none⟩ = some (Value.int .i64 c.slots) := hc.cell 1
  clear hc
  go_wp2_with (first
    | (go_at_call 100; (with_reducible refine (hnw _).mono ?_); rintro e w4 ⟨A1, k1, A2, k2, A3, k3, rfl, hO⟩; have hS4 := Now.pushCells (Now.pushAll hS3 hO) 55 (tabCells T A1 k1 A2 k2 A3 k3); clear hS3 hnw hO c0 c1)
    | (go_at_call 39; (with_reducible refine (hat A1 k1 A2 k2 A3 k3 _).mono ?_); rintro e w5 ⟨g, rfl, hO⟩; have hS5 := Now.pushAll hS4 hO; have hS6 := Now.back (pre := [_, _, _, _]) (Now.front (pre := [_, _, _, _]) (Now.drop (pre := [_]) hS5)); clear hS4 hS5 hat hO)
    | (go_at_call 44; refine (hck g A1 k1 A2 k2 A3 k3 _ _ hS6).mono ?_; rintro e w6 ⟨rfl, hS7⟩; clear hck hS6))
  refine bodyPost_ret (v := .tuple #[.pointer (some ⟨g, 0, none⟩), .int .i64 0]) ?_ rfl ⟨g, rfl, A1, k1, A2, k2, A3, k3, Now.drop (pre := [_, _, _, _, _]) hS7⟩
  rw [results_tmp2 rfl]
  simp
end Go.Proofs.YthlbciinpidedaaGreat
