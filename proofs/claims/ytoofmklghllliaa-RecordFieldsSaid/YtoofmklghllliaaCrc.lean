/- crc: the table, and a text's sum. -/
import Derived.Test.YtoofmklghllliaaWord2
import Derived.Deep.WholeRow
import Derived.Laws.BitsAllLaws
namespace Go.Proofs.Ytoofmklghllliaa
open Go.RowKit
attribute [local go_sem high] run_mx run_mn

/-- One bit's step; a byte's rest is eight of them. -/
def stepC (r : Nat) : Nat := if r % 2 = 1 then (r / 2) ^^^ 3988292384 else r / 2
def stepsC : Nat → Nat → Nat
  | 0, r => r
  | k + 1, r => stepC (stepsC k r)
def tabC (i : Nat) : Nat := stepsC 8 i
theorem stepC_lt {r : Nat} (h : r < 4294967296) : stepC r < 4294967296 := by
  unfold stepC
  split
  · exact Nat.xor_lt_two_pow (n := 32) (by omega) (by omega)
  · omega
theorem stepsC_lt (k : Nat) {r : Nat} (h : r < 4294967296) : stepsC k r < 4294967296 := by
  induction k with
  | zero => exact h
  | succ k ih => exact stepC_lt ih
def tabAt (i j : Nat) : Value := .int .u32 ((if j < i then tabC j else 0 : Nat) : Int)
def tabCells (i : Nat) : Array Value := ((List.range 256).map (tabAt i)).toArray
theorem tabCells_size (i : Nat) : (tabCells i).size = 256 := by simp [tabCells]
theorem tabCells_at (i j : Nat) (hj : j < 256) : (tabCells i)[j]? = some (tabAt i j) := by
  unfold tabCells
  rw [List.getElem?_toArray, List.getElem?_map, List.getElem?_range hj]; rfl
theorem tabCells_set (k : Nat) (hk : k < 256) : (tabCells k).setIfInBounds k (.int .u32 (tabC k : Int)) = tabCells (k + 1) := by
  apply Array.ext_getElem?
  intro j
  rw [Array.getElem?_setIfInBounds, tabCells_size]
  by_cases hj : j < 256
  · rw [tabCells_at (k + 1) j hj, tabCells_at k j hj]
    by_cases e : k = j
    · rw [if_pos e, if_pos hk]
      subst e
      unfold tabAt; rw [if_pos (by omega)]
    · rw [if_neg e]
      unfold tabAt
      by_cases h : j < k
      · rw [if_pos h, if_pos (by omega)]
      · rw [if_neg h, if_neg (by omega)]
  · rw [if_neg (by omega), Array.getElem?_eq_none (by rw [tabCells_size]; omega), Array.getElem?_eq_none (by rw [tabCells_size]; omega)]
theorem zero256 : (Try.prog.info? 81).map (fun i => (i.zero, i.size)) = some (some (.agg (tabCells 0)), 256) := by kernel_rfl

set_option maxRecDepth 100000 in
set_option maxHeartbeats 4000000 in
theorem rests_any (w : World) :
    Calls Try.prog 48 #[] w fun e w' => e = .returned (.agg (tabCells 256)) ∧ Below w.heap.size w w' := by
  obtain ⟨hz, hi⟩ := zero_of_info zero256
  have h0 : Blk (w.alloc (.cells (tabCells 0) 81)) w.heap.size 81 (tabCells 0) := Blk.new _ _ _
  have hs := tabCells_size 0
  go_enter Try.func48, Try.ntmps48
  generalize hT0 : tabCells 0 = T0 at *
  go_wp2_with fail
  have h1 : Blk ((w.alloc (.cells T0 81)).alloc (.cells T0 81)) (w.heap.size + 1) 81 T0 := by
    have := Blk.new (w.alloc (.cells T0 81)) 81 T0
    rwa [show (w.alloc (.cells T0 81)).heap.size = w.heap.size + 1 by simp] at this
  have h2 := h0.alloc (.cells T0 81)
  have hB : Below w.heap.size w ((w.alloc (.cells T0 81)).alloc (.cells T0 81)) := ((Below.refl _ _).alloc (Nat.le_refl _) _).alloc (by simp) _
  go_loopw [4] (fun i wr => ∃ j : Nat, j ≤ 256 ∧ i = .int .i64 j ∧ Blk wr (w.heap.size + 1) 81 (tabCells j) ∧ Blk wr w.heap.size 81 T0 ∧ Below w.heap.size w wr) (fun i _ => 256 - (intOf i).toNat)
  case atStart => exact ⟨0, by omega, rfl, by rw [hT0]; exact h1, h2, hB⟩
  case round =>
    clear h0 h1 h2 hB
    obtain ⟨j, hj, rfl, hb, hr, hB⟩ := hrel
    by_cases hlt : j < 256
    · have c1 := (hb.cell j).trans (tabCells_at j j hlt)
      have f1 := hb.frozen j
      go_wp2_with fail
      go_loop [3, 9] (fun r i => ∃ m : Nat, m ≤ 8 ∧ i = .int .i64 m ∧ r = .int .u32 (stepsC m j)) (fun _ i => 8 - (intOf i).toNat)
      case atStart => exact ⟨0, by omega, rfl, rfl⟩
      case round =>
        obtain ⟨m, hm, rfl, rfl⟩ := hrel
        by_cases hlm : m < 8
        · have hrl := stepsC_lt m (r := j) (by omega)
          have hst : stepsC (m + 1) j = stepC (stepsC m j) := rfl
          generalize stepsC m j = r at *
          have hand : bits BinOp.and IntKind.u32 (r : Int) 1 = ((r % 2 : Nat) : Int) := by
            have := u32_and_nat r 1 hrl (by omega)
            rw [Nat.and_one_is_mod] at this
            exact this
          by_cases hodd : r % 2 = 1
          · have hx := u32_xor_nat (r / 2) 3988292384 (by omega) (by omega)
            have hst2 : stepsC (m + 1) j = (r / 2) ^^^ 3988292384 := by rw [hst]; exact if_pos hodd
            have HS := Lib.hid hst2
            rw [hodd] at hand
            clear hst hst2 hodd
            have hx : bits BinOp.xor IntKind.u32 ((r : Int) / 2) 3988292384 = ((r / 2 ^^^ 3988292384 : Nat) : Int) := hx
            go_wp2_with fail
            go_round
            case rel => exact ⟨m + 1, by omega, by go_num, by rw [HS.out]⟩
            case measure => simp [intOf]; omega
          · have hev : r % 2 = 0 := by omega
            have hst2 : stepsC (m + 1) j = r / 2 := by rw [hst]; exact if_neg hodd
            have HS := Lib.hid hst2
            rw [hev] at hand
            clear hst hst2 hodd hev
            go_wp2_with fail
            go_round
            case rel => exact ⟨m + 1, by omega, by go_num, by rw [HS.out]; rfl⟩
            case measure => simp [intOf]; omega
        · obtain rfl : m = 8 := by omega
          go_wp2_with fail
          go_roundw
          case rel => exact ⟨j + 1, by omega, by go_num, by rw [← tabCells_set j hlt]; exact hb.set_ _ _, hr.far (by show w.heap.size ≠ w.heap.size + 1; omega) _, hB.setCell (by show w.heap.size ≤ w.heap.size + 1; omega) _⟩
          case measure => simp [intOf]; omega
    · obtain rfl : j = 256 := by omega
      have hl : (loadVar 81 ⟨w.heap.size + 1, 0, none⟩).run Try.prog wr = .ok (.agg (tabCells 256)) wr := run_loadVar_row wr _ _ _ _ (0, 0) _ hb Try.underlying81 rfl (by rw [tabCells_size]; exact hi)
      go_wp2_with fail
      unfold Oper.wp
      simp only [execOp, Act.eval, Instr.loadAt, Instr.sureAddr, Sem.run_bind, Sem.run_pure]
      change Oper.upon _ _ _ _ _ (((loadVar 81 ⟨w.heap.size + 1, 0, none⟩).run Try.prog wr).andThen fun a w' => Result.ok (Next.value a) w')
      rw [hl, Result.andThen_ok, Oper.upon_value]
      have hst := run_storeVar_row wr w.heap.size 81 81 T0 (tabCells 256) (P := Try.prog) hr (by rw [tabCells_size]; exact hi) (by rw [hs, tabCells_size]) (by unfold tabCells; simp [tabAt, Value.oneCell'])
      have hsc : (storeCells ⟨w.heap.size, 0, none⟩ (tabCells 256).toList).run Try.prog wr = .ok () (wr.setRow w.heap.size (tabCells 256)) := by
        cases hq : Try.prog.info? 81 with
        | none => simp [hq] at hi
        | some i =>
          have hs' : (tabCells 256).size = i.size := by rw [tabCells_size]; simp [hq] at hi; omega
          simpa [storeVar, sizeOf, typeInfo, hq, Value.cells, hs'] using hst
      have hb2 : Blk (wr.setRow w.heap.size (tabCells 256)) w.heap.size 81 (tabCells 256) := by
        unfold Blk World.setRow
        simp only [Array.getElem?_modify, if_true]
        rw [show wr.heap[w.heap.size]? = _ from hr]; rfl
      have hld : (loadVar 81 ⟨w.heap.size, 0, none⟩).run Try.prog (wr.setRow w.heap.size (tabCells 256)) = .ok (.agg (tabCells 256)) (wr.setRow w.heap.size (tabCells 256)) := run_loadVar_row _ _ _ _ _ (0, 0) _ hb2 Try.underlying81 rfl (by rw [tabCells_size]; exact hi)
      have hB2 : Below w.heap.size w (wr.setRow w.heap.size (tabCells 256)) := hB.trans ⟨rfl, rfl, rfl, by simp [World.setRow], fun k hk => by
        simp only [World.setRow, Array.getElem?_modify]
        rw [if_neg (by omega)]⟩
      clear hst hl hb hr hB
      go_wp2_with fail
      (try simp only [Exit.inBlock, Exit.then])
      refine bodyPost_ret (v := .agg (tabCells 256)) ?_ rfl ⟨rfl, hB2⟩
      exact results_cell_row rfl _ _ w.heap.size _ (tabCells 256) (0, 0) _ rfl hb2 Try.underlying81 rfl (by rw [tabCells_size]; exact hi)
end Go.Proofs.Ytoofmklghllliaa
