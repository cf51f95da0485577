/- lodgerref08.In and Free, where no segment is free. -/
import Derived.Test.YthlbciinpidedaaGreatZK22
import Derived.Test.YthlbciinpidedaaGreatZK17
namespace Go.Proofs.YthlbciinpidedaaGreat
set_option linter.unusedSimpArgs false
set_option linter.unusedVariables false
set_option maxRecDepth 100000
open Go.RowKit
attribute [local go_sem high] run_mx run_mn
set_option maxHeartbeats 8000000 in
theorem In_any (T : Tab) (hT : T.Ok) (AO : Option Addr) (cO : Nat) (AL : Option Addr) (cL : Nat) (AF : Option Addr) (cF : Nat) (x : Int) (w : World) (h : TabIn w w.heap.size T AO AL AF) :
    Calls Tryz.prog 68 #[.agg (tabCells T AO cO AL cL AF cF), .int .i64 x] w fun e w' => e = .returned (.int .i64 (idx T.order x)) ∧ Newer w w' := by
  have hmn := hT.many
  have ro := h.o
  obtain ⟨n, hn⟩ : ∃ n, T.order.length = n := ⟨_, rfl⟩
  unfold tabCells
  rw [hn] at ro hmn ⊢
  have HN := Lib.hid hn
  have RO := Lib.hid ro
  have hS := Now.pushCells (Sep.start w) 60 #[.int .i64 T.segs, .int .i64 T.slots, .slice AO n cO, .slice AL T.lens.length cL, .slice AF T.firsts.length cF]
  have hx1 := Now.blk (pre := []) hS
  have c2 : _ = some (Value.slice AO n cO) := hx1.cell 2
  have hB := Sep.base hS
  clear h hn ro hT hS hx1
  go_enter Tryz.func68, Tryz.ntmps68
  go_wp2_with fail
  generalize w.alloc (.cells #[.int .i64 T.segs, .int .i64 T.slots, .slice AO n cO, .slice AL T.lens.length cL, .slice AF T.firsts.length cF] 60) = wb at *
  go_loop [5] (fun i => ∃ k : Nat, k ≤ n ∧ i = .int .i64 k ∧ Hid (∀ j : Nat, j < k → T.order[j]? ≠ some x)) (fun i => n - (intOf i).toNat)
  case atStart => exact ⟨0, by omega, rfl, Lib.hid (by intro j hj; omega)⟩
  case round =>
    obtain ⟨k, hk, rfl, hno⟩ := hrel
    by_cases hlt : k < n
    · have hki : (k : Int) < (n : Int) := by omega
      obtain ⟨y, hy⟩ : ∃ y, T.order[k]? = some y := ⟨_, List.getElem?_eq_getElem (by rw [HN.out]; exact hlt)⟩
      obtain ⟨ad, rfl, had, ca0⟩ := read_cell (u := .int .i64 y) RO.out hlt (by rw [List.getElem?_map, hy]; rfl)
      have ca : wb.cell? (ad.add k) = some (.int .i64 y) := (hB.cell (p := ad.add k) (by rw [block_of_add]; exact had)).trans ca0
      have HY := Lib.hid hy
      clear hy ca0 had
      by_cases hxy : y = x
      · subst hxy
        have hfin := Lib.hid (idx_at HY.out hno.out)
        clear hno
        go_wp2
        go_ret
        exact ⟨by rw [hfin.out]; rfl, hB⟩
      · have hno2 : Hid (∀ j : Nat, j < k + 1 → T.order[j]? ≠ some x) := Lib.hid (by
          intro j hj e
          by_cases hjk : j = k
          · subst hjk
            rw [HY.out] at e
            exact hxy (Option.some.inj e)
          · exact hno.out j (by omega) e)
        go_wp2
        go_round
        case rel => exact ⟨k + 1, by omega, by go_num, hno2⟩
        case measure => simp [intOf]; omega
    · obtain rfl : k = n := by omega
      have hfin := Lib.hid (idx_none (l := T.order) (x := x) (fun j hj => hno.out j (by rw [HN.out] at hj; exact hj)))
      go_wp2
      go_ret
      exact ⟨by rw [hfin.out]; rfl, hB⟩
set_option maxHeartbeats 8000000 in
theorem Free_none (T : Tab) (hT : T.Ok) (hf : T.freeTo T.segs.toNat = []) (AO : Option Addr) (cO : Nat) (AL : Option Addr) (cL : Nat) (AF : Option Addr) (cF : Nat) (w : World) (h : TabIn w w.heap.size T AO AL AF) :
    Calls Tryz.prog 25 #[.agg (tabCells T AO cO AL cL AF cF)] w fun e w' => (∃ A c, e = .returned (.slice A 0 c)) ∧ Newer w w' := by
  have hsg := hT.segs
  have hall : ∀ k : Nat, (k : Int) < T.segs → ¬ idx T.order (k : Int) < 0 := fun k hk hlt => by
    have := (freeTo_mem T T.segs.toNat (k : Int)).2 ⟨⟨by omega, by omega⟩, hlt⟩
    rw [hf] at this
    cases this
  have hin := fun x v (hv : Newer (w.alloc (.cells (tabCells T AO cO AL cL AF cF) 60)) v) => In_any T hT AO cO AL cL AF cF x v (((h.alloc (Nat.le_refl _) (.cells (tabCells T AO cO AL cL AF cF) 60)).below (hv.mono (by simp))).more (Nat.le_trans (by simp) hv.size))
  have hx1 := Blk.new w 60 (tabCells T AO cO AL cL AF cF)
  have hB := (Newer.refl w).alloc (.cells (tabCells T AO cO AL cL AF cF) 60)
  obtain ⟨N, hN⟩ : ∃ N : Nat, T.segs = N := ⟨T.segs.toNat, by omega⟩
  have HALL := Lib.hid hall
  have HNN := Lib.hid hN
  clear h hf hall hT hN
  go_enter Tryz.func25, Tryz.ntmps25
  go_wp2_with fail
  go_loopw [3, 4] (fun v3 i wr => ∃ k : Nat, k ≤ N ∧ v3 = .slice (some ⟨w.heap.size + 1, 0, none⟩) 0 0 ∧ i = .int .i64 k ∧ Newer (w.alloc (.cells (tabCells T AO cO AL cL AF cF) 60)) wr) (fun _ i _ => N - (intOf i).toNat)
  case atStart => exact ⟨0, by omega, rfl, rfl, by first | exact Newer.refl _ | exact (Newer.refl _).alloc _⟩
  case round =>
    obtain ⟨k, hk, rfl, rfl, hW⟩ := hrel
    have hxr := hx1.below hW hx1.lt
    have c0 : wr.cell? ⟨w.heap.size, 0, none⟩ = some (Value.int .i64 T.segs) := hxr.cell 0
    have c1 : wr.cell? ⟨w.heap.size, 1, none⟩ = some (Value.int .i64 T.slots) := hxr.cell 1
    have c2 : wr.cell? ⟨w.heap.size, 2, none⟩ = some (Value.slice AO T.order.length cO) := hxr.cell 2
    have c3 : wr.cell? ⟨w.heap.size, 3, none⟩ = some (Value.slice AL T.lens.length cL) := hxr.cell 3
    have c4 : wr.cell? ⟨w.heap.size, 4, none⟩ = some (Value.slice AF T.firsts.length cF) := hxr.cell 4
    clear hxr
    by_cases hlt : k < N
    · have hks : (k : Int) < T.segs := by have := HNN.out; omega
      have hid : ¬ idx T.order (k : Int) < 0 := by have := HALL.out k hks; omega
      have hi := hin (k : Int) wr hW
      go_wp2_with (go_at_call 68; (with_reducible refine hi.mono ?_); rintro e w2 ⟨rfl, hB2⟩)
      go_roundw
      case rel => exact ⟨k + 1, by omega, rfl, by go_num, hW.trans hB2⟩
      case measure => simp [intOf] <;> omega
    · have hks : ¬ (k : Int) < T.segs := by have := HNN.out; omega
      go_wp2_with fail
      go_ret
      exact ⟨⟨_, _, rfl⟩, hB.trans hW⟩
end Go.Proofs.YthlbciinpidedaaGreat
