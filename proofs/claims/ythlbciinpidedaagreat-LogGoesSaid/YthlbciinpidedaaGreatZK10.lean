/- What the laws of this seat lean on, part 10. -/
import Derived.Test.YthlbciinpidedaaGreatZK9
import Derived.RangeFuncNested
import Derived.RangeFuncBound
import Derived.RangeFuncCalls
import Derived.RangeFuncLeaves
import Derived.RangeFuncBox
import Derived.Shelf.Abstract
import Derived.Shelf.RegionOpen
import Derived.WalkKit
import Derived.OwnWalkIn
import Derived.TacticsInMore
import Derived.LoopNIn
import Derived.LoopIn
import Derived.Test.YthlbciinpidedaaGreatZK7
import Derived.OrdersIn
import Derived.Deep.AppendLies
/- The contract of table.Drop. -/
namespace Go.Proofs.YthlbciinpidedaaGreat
set_option linter.unusedSimpArgs false
set_option linter.unusedVariables false
set_option maxRecDepth 100000
open Go.RowKit
attribute [local go_sem high] run_mx run_mn

def Tab.drop (T : Tab) (i : Nat) : Tab := { T with order := T.order.eraseIdx i, lens := T.lens.eraseIdx i, firsts := T.firsts.eraseIdx i }

theorem Drop_bad (T : Tab) (hT : T.Ok) (AO : Option Addr) (cO : Nat) (AL : Option Addr) (cL : Nat) (AF : Option Addr) (cF : Nat) (s : Int) (w : World) (h : TabIn w w.heap.size T AO AL AF) (hl : idx T.order s < 0 ∨ idx T.order s = (T.order.length - 1 : Nat)) :
    Calls Tryz.prog 62 #[.agg (tabCells T AO cO AL cL AF cF), .int .i64 s] w fun e w' => e = .returned (.tuple #[.agg zeroTab, .int .i64 1]) ∧ Newer w w' := by
  have h1 := (h.alloc (Nat.le_refl _) (.cells (tabCells T AO cO AL cL AF cF) 55)).alloc (by simp) (.cells zeroTab 55)
  have hi := Index_any AO T.order.length cO w.heap.size T.order s _ h1.o (by have := hT.many; omega)
  have hlast := fun v => last_any T hT AO cO AL cL AF cF v
  have hS0 := Lib.hid (Now.pushCells (Now.pushCells (Sep.start w) 55 (tabCells T AO cO AL cL AF cF)) 55 zeroTab)
  have hlt := idx_lt T.order s
  rcases hl with hl | hl
  · have n1 : idx T.order s ≤ -1 := by omega
    generalize idx T.order s = y at *
    clear h1 h hT
    go_enter Tryz.func62, Tryz.ntmps62
    go_wp2_with (go_at_call 63; (with_reducible refine hi.mono ?_); rintro e w' ⟨rfl, rfl⟩)
    refine bodyPost_ret (v := .tuple #[.agg zeroTab, .int .i64 1]) ?_ rfl ⟨rfl, Sep.base hS0.out⟩
    exact results_row_tmp rfl _ _ _ _ _ _ _ (by simp) (by simp) (Now.blk (pre := []) hS0.out) Tryz.underlying55 rfl (by kernel_rfl)
  · obtain ⟨m, hm⟩ : ∃ m : Nat, T.order.length - 1 = m := ⟨_, rfl⟩
    rw [hm] at hlast hl
    rw [hl] at hi
    clear h1 h hT hm hl hlt
    go_enter Tryz.func62, Tryz.ntmps62
    go_wp2_with (first
      | (go_at_call 63; (with_reducible refine hi.mono ?_); rintro e w' ⟨rfl, rfl⟩)
      | (go_at_call 77; (with_reducible refine (hlast _).mono ?_); rintro e w1 ⟨rfl, hB⟩; have hS1 := Now.below hS0.out hB; have hr := Now.blk (pre := []) hS1; simp only [World.size_alloc] at hr; have f := fun k => hr.frozen k; have r0 : _ = some (Value.int .i64 0) := hr.cell 0; have r1 : _ = some (Value.int .i64 0) := hr.cell 1; have r2 : _ = some (Value.slice none 0 0) := hr.cell 2; have r3 : _ = some (Value.slice none 0 0) := hr.cell 3; have r4 : _ = some (Value.slice none 0 0) := hr.cell 4; simp only [World.size_alloc] at hS1; have hS2 := Lib.hid (Now.set5 (pre := []) hS1 (.int .i64 0) (.int .i64 0) (.slice none 0 0) (.slice none 0 0) (.slice none 0 0)); clear hr hS1))
    refine bodyPost_ret (v := .tuple #[.agg zeroTab, .int .i64 1]) ?_ rfl ⟨rfl, Sep.base hS2.out⟩
    exact results_row_tmp rfl _ _ _ _ _ _ _ (by simp) (by simp) (Now.blk (pre := []) hS2.out) Tryz.underlying55 rfl (by kernel_rfl)

set_option maxHeartbeats 8000000 in
theorem Drop_ok (T : Tab) (hT : T.Ok) (AO : Option Addr) (cO : Nat) (AL : Option Addr) (cL : Nat) (AF : Option Addr) (cF : Nat) (s : Int) (w : World) (h : TabIn w w.heap.size T AO AL AF) (i : Nat) (hl : idx T.order s = i) (hi1 : i + 1 < T.order.length) :
    Calls Tryz.prog 62 #[.agg (tabCells T AO cO AL cL AF cF), .int .i64 s] w fun e w' => GotTab w w' (T.drop i) e := by
  have h1 := (h.alloc (Nat.le_refl _) (.cells (tabCells T AO cO AL cL AF cF) 55)).alloc (by simp) (.cells zeroTab 55)
  have hi := Index_any AO T.order.length cO w.heap.size T.order s _ h1.o (by have := hT.many; omega)
  have hmn := hT.many
  have hlen := hT.len
  have hfst := hT.fst
  have hlast := fun v => last_any T hT AO cO AL cL AF cF v
  have hown := fun v (hv : TabIn v v.heap.size T AO AL AF) => own_any T hT.short AO cO AL cL AF cF v hv
  have hTI := fun v (hv : Below w.heap.size w v) => (h.below hv).more hv.size
  have hS0 := Now.pushCells (Now.pushCells (Sep.start w) 55 (tabCells T AO cO AL cL AF cF)) 55 zeroTab
  simp only [World.size_alloc] at hS0
  obtain ⟨m, hm⟩ : ∃ m : Nat, T.order.length - 1 = m := ⟨_, rfl⟩
  rw [hm] at hlast
  rw [hl] at hi
  have him : (i : Int) < (m : Int) := by omega
  have him2 : ((i : Int) == (m : Int)) = false := beq_eq_false_iff_ne.2 (by omega)
  have him3 : (i == m) = false := beq_eq_false_iff_ne.2 (by omega)
  have him4 : decide (i = m) = false := by simp; omega
  have HLEN := Lib.hid hlen
  have HFST := Lib.hid hfst
  clear h1 h hm hl hlen hfst
  go_enter Tryz.func62, Tryz.ntmps62
  go_wp2_with (first
    | (go_at_call 63; (with_reducible refine hi.mono ?_); rintro e w' ⟨rfl, rfl⟩)
    | (go_at_call 77; (with_reducible refine (hlast _).mono ?_); rintro e w1 ⟨rfl, hB⟩; have hS1 := Now.below hS0 hB; have hb := Now.blk (pre := [_]) hS1; have c0 : _ = some (Value.int .i64 T.segs) := hb.cell 0; have c1 : _ = some (Value.int .i64 T.slots) := hb.cell 1; have c2 : _ = some (Value.slice AO T.order.length cO) := hb.cell 2; have c3 : _ = some (Value.slice AL T.lens.length cL) := hb.cell 3; have c4 : _ = some (Value.slice AF T.firsts.length cF) := hb.cell 4; clear hS0 hB hb hlast)
    | (go_at_call 104; (with_reducible refine (hown _ (hTI _ (Sep.base hS1))).mono ?_); rintro e w7 ⟨A1, k1, A2, k2, A3, k3, rfl, hO⟩; have hS7 := Now.pushAll hS1 hO; clear hown hTI hS1 hO c0 c1 c2 c3 c4))
  have hS8 := Now.pushCells hS7 55 (tabCells T A1 k1 A2 k2 A3 k3)
  obtain ⟨y, hy⟩ : ∃ y, w7.heap.size = y := ⟨_, rfl⟩
  rw [hy] at hS8 ⊢
  generalize w7.alloc (.cells (tabCells T A1 k1 A2 k2 A3 k3) 55) = w8 at hS8 ⊢
  clear hy hS7
  have hSl := HLEN.out
  have hSf := HFST.out
  obtain ⟨r1, q1, _, e1, _⟩ := row_form (Now.row (pre := [_]) hS8) (by omega)
  cases e1
  obtain ⟨r2, q2, _, e1, _⟩ := row_form (Now.row (pre := [_, _]) hS8) (by omega)
  cases e1
  obtain ⟨r3, q3, _, e1, _⟩ := row_form (Now.row (pre := [_, _, _]) hS8) (by omega)
  cases e1
  clear hSl hSf
  have hyb := Now.blk (pre := []) hS8
  have HB : y < w8.drew.heap.size := hyb.lt
  have hcell : ∀ w1, KeepG y w8.drew w1 → w1.cell? ⟨y, 2, none⟩ = some (.slice (some ⟨r1, 0, none⟩) T.order.length k1) ∧ w1.cell? ⟨y, 3, none⟩ = some (.slice (some ⟨r2, 0, none⟩) T.lens.length k2) ∧ w1.cell? ⟨y, 4, none⟩ = some (.slice (some ⟨r3, 0, none⟩) T.firsts.length k3) := fun w1 hw => by
    have hb1 := KeepG.blk (w := w8.drew) hw hyb
    exact ⟨hb1.cell 2, hb1.cell 3, hb1.cell 4⟩
  have x1 : IntKind.i64.wrap ((i : Int) + 1) = (i : Int) + 1 := IntWalk.i64_in _ (by omega)
  replace hS8 := hS8.drew
  refine wp_region_takes (KeepG.grow y) [19, 21, 23] [(0, false), (1, false), (2, true), (3, true), (4, true), (6, false), (7, false), (8, true), (9, true), (10, true), (12, false), (13, false), (14, true), (15, true), (16, true)] 9 (by kernel_rfl) (by kernel_rfl) rfl (by kernel_rfl) (by intro _ _ d _ _ h; cases d <;> exact h) ?_
  iterate 2
    (apply wpTakes_take
     · exact rfl
     · intro w1 hR1; have h1 := hR1 HB
       (obtain ⟨c2, c3, c4⟩ := hcell w1 hR1)
       go_simp
       first
         | with_reducible exact ⟨rfl, Newer.grow.refl _⟩
     simp only [Act.put, List.setIfInBounds_toArray, List.set_cons_zero, List.set_cons_succ])
  iterate 3
    (apply wpTakes_pure
     · exact rfl
     · intro w1
       skip
       go_simp
       first
         | with_reducible exact ⟨rfl, Newer.grow.refl _⟩
     simp only [Act.put, List.setIfInBounds_toArray, List.set_cons_zero, List.set_cons_succ])
  iterate 2
    (apply wpTakes_take
     · exact rfl
     · intro w1 hR1; have h1 := hR1 HB
       (obtain ⟨c2, c3, c4⟩ := hcell w1 hR1)
       go_simp
       first
         | with_reducible exact ⟨rfl, Newer.grow.refl _⟩
     simp only [Act.put, List.setIfInBounds_toArray, List.set_cons_zero, List.set_cons_succ])
  iterate 3
    (apply wpTakes_pure
     · exact rfl
     · intro w1
       skip
       go_simp
       first
         | with_reducible exact ⟨rfl, Newer.grow.refl _⟩
     simp only [Act.put, List.setIfInBounds_toArray, List.set_cons_zero, List.set_cons_succ])
  iterate 2
    (apply wpTakes_take
     · exact rfl
     · intro w1 hR1; have h1 := hR1 HB
       (obtain ⟨c2, c3, c4⟩ := hcell w1 hR1)
       go_simp
       first
         | with_reducible exact ⟨rfl, Newer.grow.refl _⟩
     simp only [Act.put, List.setIfInBounds_toArray, List.set_cons_zero, List.set_cons_succ])
  iterate 3
    (apply wpTakes_pure
     · exact rfl
     · intro w1
       skip
       go_simp
       first
         | with_reducible exact ⟨rfl, Newer.grow.refl _⟩
     simp only [Act.put, List.setIfInBounds_toArray, List.set_cons_zero, List.set_cons_succ])
  refine wpTakes_done ?_
  clear hcell
  generalize w8.drew = wc at hS8 HB ⊢
  refine wpAnyE_fork [5] (by kernel_rfl) (by simp) ?_
  refine List.forall_mem_cons.2 ⟨?_, List.forall_mem_nil _⟩
  refine ⟨_, rfl, ?_⟩
  intro w1 h1 K hK
  replace hS8 := Now.below hS8 h1
  go_simp
  go_at_call 105
  refine (DeleteI_in (pre := [_]) r1 T.order.length k1 i T.order hS8 (by omega) (by omega)).mono ?_
  rintro e w2 ⟨rfl, hz, hS9⟩
  refine hK _ _ (fun _ _ => ⟨(Now.blk (pre := []) hS9).trans (Now.blk (pre := []) hS8).symm, hz⟩) ?_
  clear hK K hS8 hz h1 HB
  apply wpAnyE_pure (KeepG.grow y) 18
  · kernel_rfl
  · intro _ _ d _ _ h; cases d <;> exact h
  · exact rfl
  · kernel_rfl
  · intro w1
    go_simp
    exact ⟨rfl, Newer.grow.refl _⟩
  try simp only [Act.put, List.setIfInBounds_toArray, List.set_cons_zero, List.set_cons_succ]
  refine wpAnyE_fork [11] (by kernel_rfl) (by simp) ?_
  refine List.forall_mem_cons.2 ⟨?_, List.forall_mem_nil _⟩
  refine ⟨_, rfl, ?_⟩
  intro w1 h1 K hK
  replace hS9 := Now.below hS9 h1
  go_simp
  go_at_call 105
  refine (DeleteI_in (pre := [_, _]) r2 T.lens.length k2 i T.lens hS9 (by have := HLEN.out; omega) (by have := HLEN.out; omega)).mono ?_
  rintro e w3 ⟨rfl, hz, hS10⟩
  refine hK _ _ (fun _ _ => ⟨(Now.blk (pre := []) hS10).trans (Now.blk (pre := []) hS9).symm, hz⟩) ?_
  clear hK K hS9 hz h1
  refine wpAnyE_fork [17] (by kernel_rfl) (by simp) ?_
  refine List.forall_mem_cons.2 ⟨?_, List.forall_mem_nil _⟩
  refine ⟨_, rfl, ?_⟩
  intro w1 h1 K hK
  replace hS10 := Now.below hS10 h1
  go_simp
  go_at_call 106
  refine (DeleteU_in (pre := [_, _, _]) r3 T.firsts.length k3 i T.firsts hS10 (by have := HFST.out; omega) (by have := HFST.out; omega)).mono ?_
  rintro e w4 ⟨rfl, hz, hS11⟩
  refine hK _ _ (fun _ _ => ⟨(Now.blk (pre := []) hS11).trans (Now.blk (pre := []) hS10).symm, hz⟩) ?_
  clear hK K hS10 hz h1
  refine wpAnyE_fork [19] (by kernel_rfl) (by simp) ?_
  refine List.forall_mem_cons.2 ⟨?_, List.forall_mem_nil _⟩
  refine ⟨_, rfl, ?_⟩
  intro w1 h1 K hK
  replace hS11 := Now.below hS11 h1
  have hyb := Now.blk (pre := []) hS11
  have c2 : _ = some (Value.slice (some ⟨r1, 0, none⟩) T.order.length k1) := hyb.cell 2
  have c3 : _ = some (Value.slice (some ⟨r2, 0, none⟩) T.lens.length k2) := hyb.cell 3
  have c4 : _ = some (Value.slice (some ⟨r3, 0, none⟩) T.firsts.length k3) := hyb.cell 4
  have f2 := hyb.frozen 2
  go_simp
  refine hK _ _ (fun hn => absurd (by decide) hn) ?_
  replace hS11 := Now.set_ (pre := []) hS11 2 (.slice (some ⟨r1, 0, none⟩) (T.order.length - 1) k1)
  clear hK K hyb c2 c3 c4 f2 h1
  generalize w1.setCell ⟨y, 2, none⟩ (.slice (some ⟨r1, 0, none⟩) (T.order.length - 1) k1) = v19 at hS11 ⊢
  clear w1
  apply wpAnyE_pure (KeepG.grow y) 20
  · kernel_rfl
  · intro _ _ d _ _ h; cases d <;> exact h
  · exact rfl
  · kernel_rfl
  · intro w1
    go_simp
    exact ⟨rfl, Newer.grow.refl _⟩
  try simp only [Act.put, List.setIfInBounds_toArray, List.set_cons_zero, List.set_cons_succ]
  refine wpAnyE_fork [21] (by kernel_rfl) (by simp) ?_
  refine List.forall_mem_cons.2 ⟨?_, List.forall_mem_nil _⟩
  refine ⟨_, rfl, ?_⟩
  intro w1 h1 K hK
  replace hS11 := Now.below hS11 h1
  have hyb := Now.blk (pre := []) hS11
  have c2 : _ = some (Value.slice (some ⟨r1, 0, none⟩) (T.order.length - 1) k1) := hyb.cell 2
  have c3 : _ = some (Value.slice (some ⟨r2, 0, none⟩) T.lens.length k2) := hyb.cell 3
  have c4 : _ = some (Value.slice (some ⟨r3, 0, none⟩) T.firsts.length k3) := hyb.cell 4
  have f2 := hyb.frozen 3
  go_simp
  refine hK _ _ (fun hn => absurd (by decide) hn) ?_
  replace hS11 := Now.set_ (pre := []) hS11 3 (.slice (some ⟨r2, 0, none⟩) (T.lens.length - 1) k2)
  clear hK K hyb c2 c3 c4 f2 h1
  generalize w1.setCell ⟨y, 3, none⟩ (.slice (some ⟨r2, 0, none⟩) (T.lens.length - 1) k2) = v21 at hS11 ⊢
  clear w1
  apply wpAnyE_pure (KeepG.grow y) 22
  · kernel_rfl
  · intro _ _ d _ _ h; cases d <;> exact h
  · exact rfl
  · kernel_rfl
  · intro w1
    go_simp
    exact ⟨rfl, Newer.grow.refl _⟩
  try simp only [Act.put, List.setIfInBounds_toArray, List.set_cons_zero, List.set_cons_succ]
  refine wpAnyE_fork [23] (by kernel_rfl) (by simp) ?_
  refine List.forall_mem_cons.2 ⟨?_, List.forall_mem_nil _⟩
  refine ⟨_, rfl, ?_⟩
  intro w1 h1 K hK
  replace hS11 := Now.below hS11 h1
  have hyb := Now.blk (pre := []) hS11
  have c2 : _ = some (Value.slice (some ⟨r1, 0, none⟩) (T.order.length - 1) k1) := hyb.cell 2
  have c3 : _ = some (Value.slice (some ⟨r2, 0, none⟩) (T.lens.length - 1) k2) := hyb.cell 3
  have c4 : _ = some (Value.slice (some ⟨r3, 0, none⟩) T.firsts.length k3) := hyb.cell 4
  have f2 := hyb.frozen 4
  go_simp
  refine hK _ _ (fun hn => absurd (by decide) hn) ?_
  replace hS11 := Now.set_ (pre := []) hS11 4 (.slice (some ⟨r3, 0, none⟩) (T.firsts.length - 1) k3)
  clear hK K hyb c2 c3 c4 f2 h1
  generalize w1.setCell ⟨y, 4, none⟩ (.slice (some ⟨r3, 0, none⟩) (T.firsts.length - 1) k3) = v23 at hS11 ⊢
  clear w1
  refine wpAnyE_end (by kernel_rfl) fun v8 h8 => ?_
  have hS12 := Now.below hS11 h8
  have hyb := Now.blk (pre := []) hS12
  have c0 : v8.cell? ⟨y, 0, none⟩ = some (.int .i64 T.segs) := hyb.cell 0
  have c1 : v8.cell? ⟨y, 1, none⟩ = some (.int .i64 T.slots) := hyb.cell 1
  have c2 : v8.cell? ⟨y, 2, none⟩ = some (.slice (some ⟨r1, 0, none⟩) (T.order.length - 1) k1) := hyb.cell 2
  have c3 : v8.cell? ⟨y, 3, none⟩ = some (.slice (some ⟨r2, 0, none⟩) (T.lens.length - 1) k2) := hyb.cell 3
  have c4 : v8.cell? ⟨y, 4, none⟩ = some (.slice (some ⟨r3, 0, none⟩) (T.firsts.length - 1) k3) := hyb.cell 4
  have hr := Now.blk (pre := [_, _, _, _]) hS12
  have f := fun k => hr.frozen k
  have r0 : v8.cell? ⟨w.heap.size + 1, 0, none⟩ = some (.int .i64 0) := hr.cell 0
  have r1' : v8.cell? ⟨w.heap.size + 1, 1, none⟩ = some (.int .i64 0) := hr.cell 1
  have r2' : v8.cell? ⟨w.heap.size + 1, 2, none⟩ = some (.slice none 0 0) := hr.cell 2
  have r3' : v8.cell? ⟨w.heap.size + 1, 3, none⟩ = some (.slice none 0 0) := hr.cell 3
  have r4' : v8.cell? ⟨w.heap.size + 1, 4, none⟩ = some (.slice none 0 0) := hr.cell 4
  have hS13 := Lib.hid (Now.set5 (pre := [_, _, _, _]) hS12 (.int .i64 T.segs) (.int .i64 T.slots) (.slice (some ⟨r1, 0, none⟩) (T.order.length - 1) k1) (.slice (some ⟨r2, 0, none⟩) (T.lens.length - 1) k2) (.slice (some ⟨r3, 0, none⟩) (T.firsts.length - 1) k3))
  clear hS11 hS12 hyb hr
  go_wp2_with fail
  have e1 : (T.drop i).order.length = T.order.length - 1 := by show (T.order.eraseIdx i).length = _; rw [List.length_eraseIdx, if_pos (by omega)]
  have e2 : (T.drop i).lens.length = T.lens.length - 1 := by show (T.lens.eraseIdx i).length = _; rw [List.length_eraseIdx, if_pos (by have := HLEN.out; omega)]
  have e3 : (T.drop i).firsts.length = T.firsts.length - 1 := by show (T.firsts.eraseIdx i).length = _; rw [List.length_eraseIdx, if_pos (by have := HFST.out; omega)]
  have h14 := Now.drop (pre := [_, _, _]) (Now.drop (pre := [_, _, _]) (Now.drop (pre := []) hS13.out))
  refine bodyPost_ret (v := .tuple #[.agg (tabCells (T.drop i) (some ⟨r1, 0, none⟩) k1 (some ⟨r2, 0, none⟩) k2 (some ⟨r3, 0, none⟩) k3), .int .i64 0]) ?_ rfl ⟨_, _, _, _, _, _, rfl, ?_⟩
  · unfold tabCells
    rw [e1, e2, e3]
    exact results_row_tmp rfl _ _ _ _ _ _ _ (by simp) (by simp) (Now.blk (pre := [_, _, _, _]) hS13.out) Tryz.underlying55 rfl (by kernel_rfl)
  · unfold tabParts
    rw [e1, e2, e3]
    exact h14
end Go.Proofs.YthlbciinpidedaaGreat
/- The free segments, one by one: the iterator's contract. -/
namespace Go.Proofs.YthlbciinpidedaaGreat
set_option linter.unusedSimpArgs false
set_option linter.unusedVariables false
set_option maxRecDepth 100000
open Go.RowKit Go.Shelf
attribute [local go_sem] Oper.semAt_some

/-- The free segments below k, rising. -/
def Tab.freeTo (T : Tab) (k : Nat) : List Int := ((List.range k).map fun i : Nat => (i : Int)).filter fun s => decide (idx T.order s < 0)
theorem freeTo_yes (T : Tab) (k : Nat) (h : idx T.order (k : Int) < 0) : T.freeTo (k + 1) = T.freeTo k ++ [(k : Int)] := by
  simp [Tab.freeTo, List.range_succ, h]
theorem freeTo_no (T : Tab) (k : Nat) (h : ¬ idx T.order (k : Int) < 0) : T.freeTo (k + 1) = T.freeTo k := by
  simp [Tab.freeTo, List.range_succ, h]
theorem freeTo_length (T : Tab) (k : Nat) : (T.freeTo k).length ≤ k := by
  have := List.length_filter_le (fun s => decide (idx T.order s < 0)) ((List.range k).map fun i : Nat => (i : Int))
  simpa [Tab.freeTo] using this
abbrev freeEnc (x : Int) : Array Value := #[.int .i64 x]

set_option maxHeartbeats 4000000 in
theorem free1_in (n : Nat) (hn : 1 ≤ n) (l Bs n₀ : Nat) (T : Tab) (hT : T.Ok) (N : Nat) (hN : T.segs = N) (AO : Option Addr) (cO : Nat) (AL : Option Addr) (cL : Nat) (AF : Option Addr) (cF : Nat) (J Jx : List Int → World → Prop)
    (hY : ∀ pre x W, J pre W → pre.length < N → YieldAt Fence.wide (n - 1) Tryz.prog l (freeEnc x) W fun e W' =>
      (e = .returned (.bool true) ∧ J (pre ++ [x]) W' ∧ Below n₀ W W') ∨ (e = .returned (.bool false) ∧ Jx (pre ++ [x]) W'))
    (W : World) (hBs : Blk W Bs 55 (tabCells T AO cO AL cL AF cF)) (hBn : Bs < n₀) (hr : Reads W n₀ 1 AO T.order.length (ints T.order)) (h0 : J [] W) :
    CallsIn Fence.wide n Tryz.prog 150 #[.func (.yield l) #[] #[], .pointer (some ⟨Bs, 0, none⟩)] W fun e W' => (∃ v, e = .returned v) ∧
      ((∃ ys, ys = T.freeTo N ∧ J ys W') ∨ (∃ pre, (∃ k, k < N ∧ idx T.order (k : Int) < 0 ∧ pre = T.freeTo (k + 1)) ∧ Jx pre W')) := by
  have hmn := hT.many
  have hsg := hT.segs
  refine callsIn_of_wp Tryz.func150 rfl trivial ?_ rfl
  simp only [Tryz.ntmps150, List.size_toArray, List.length_cons, List.length_nil, Nat.reduceAdd, Nat.reduceSub, Array.replicate_succ, Array.replicate_zero, List.push_toArray, List.append_toArray, List.nil_append, List.cons_append]
  have c0 : W.cell? ⟨Bs, 0, none⟩ = some (.int .i64 T.segs) := hBs.cell 0
  rw [hN] at c0
  gi_wp2
  clear c0
  gi_loopw [3, 6] (fun _ i wr => ∃ k : Nat, k ≤ N ∧ i = .int .i64 k ∧ J (T.freeTo k) wr ∧ Below n₀ W wr) (fun _ i _ => N - (intOf i).toNat)
  case atStart => exact ⟨0, Nat.zero_le _, rfl, h0, Below.refl _ _⟩
  case round =>
    obtain ⟨k, hk, rfl, hJs, hnx⟩ := hrel
    have c2 : wr.cell? ⟨Bs, 2, none⟩ = some (.slice AO T.order.length cO) := (hnx.cell (p := ⟨Bs, 2, none⟩) hBn).trans (hBs.cell 2)
    by_cases hlt : k < N
    · have hcon := Contains_any AO T.order.length cO n₀ T.order (k : Int) wr (hr.below hnx) (by omega)
      by_cases hf : idx T.order (k : Int) < 0
      · have hfs := freeTo_yes T k hf
        have hfl := freeTo_length T k
        rw [show decide (0 ≤ idx T.order (k : Int)) = false by simp; omega] at hcon
        obtain ⟨fn, tmps, assign, body, hy, hR⟩ := hY _ (k : Int) wr hJs (by omega)
        have HFS := Lib.hid hfs
        have HF := Lib.hid hf
        clear hfs hf hfl
        gi_wp2_with (refine ⟨trivial, ?_⟩; gi_at_call 66; refine (callsIn_wide.2 hcon).mono ?_; rintro e w' ⟨rfl, rfl⟩)
        refine hR.mono ?_
        rintro e W3 (⟨rfl, hJ3, hk3⟩ | ⟨rfl, hJx3⟩)
        · gi_wp2
          go_roundw
          case rel => exact ⟨k + 1, by omega, by go_num, by rw [HFS.out]; exact hJ3, hnx.trans hk3⟩
          case measure => simp [intOf]; omega
        · gi_wp2
          refine bodyPost_ret (results_none rfl _ _ _) rfl ?_
          exact ⟨⟨_, rfl⟩, .inr ⟨_, ⟨k, hlt, HF.out, HFS.out.symm⟩, hJx3⟩⟩
      · have hfs := freeTo_no T k hf
        rw [show decide (0 ≤ idx T.order (k : Int)) = true by simp; omega] at hcon
        have HFS := Lib.hid hfs
        clear hfs hf
        gi_wp2_with (refine ⟨trivial, ?_⟩; gi_at_call 66; refine (callsIn_wide.2 hcon).mono ?_; rintro e w' ⟨rfl, rfl⟩)
        refine ⟨(fun _ h => by cases h), ?_⟩
        gi_wp2
        go_roundw
        case rel => exact ⟨k + 1, by omega, by go_num, by rw [HFS.out]; exact hJs, hnx⟩
        case measure => simp [intOf]; omega
    · obtain rfl : k = N := by omega
      gi_wp2
      go_end0
      exact ⟨⟨_, rfl⟩, .inl ⟨_, rfl, hJs⟩⟩
theorem free_stops (n : Nat) (hn : 1 ≤ n) (Bs n₀ : Nat) (T : Tab) (hT : T.Ok) (N : Nat) (hN : T.segs = N) (AO : Option Addr) (cO : Nat) (AL : Option Addr) (cL : Nat) (AF : Option Addr) (cF : Nat) (w : World) (hBs : Bs < n₀) (hn₀ : n₀ ≤ w.heap.size)
    (hb : Blk w Bs 55 (tabCells T AO cO AL cL AF cF)) (hr : Reads w n₀ 1 AO T.order.length (ints T.order)) :
    SeqStopsK Fence.wide n Tryz.prog 150 #[.pointer (some ⟨Bs, 0, none⟩)] freeEnc (Below n₀) (fun ys => ys = T.freeTo N) (fun pre => ∃ k, k < N ∧ idx T.order (k : Int) < 0 ∧ pre = T.freeTo (k + 1)) N w := fun l J Jx W hW _ _ hY h0 => by
  have hW' := hW.mono hn₀
  exact free1_in n hn l Bs n₀ T hT N hN AO cO AL cL AF cF J Jx hY W (hb.below hW' hBs) hBs (hr.below hW') h0
theorem free_in (n : Nat) (T : Tab) (AO : Option Addr) (cO : Nat) (AL : Option Addr) (cL : Nat) (AF : Option Addr) (cF : Nat) (w : World) :
    CallsIn Fence.wide n Tryz.prog 134 #[.agg (tabCells T AO cO AL cL AF cF)] w fun e w' => e = .returned (.func (.func 150) #[] #[.pointer (some ⟨w.heap.size, 0, none⟩)]) ∧ w.alloc (.cells (tabCells T AO cO AL cL AF cF) 55) = w' := by
  refine callsIn_of_wp Tryz.func134 rfl trivial ?_ rfl
  simp only [Tryz.ntmps134, List.size_toArray, List.length_cons, List.length_nil, Nat.reduceAdd, Nat.reduceSub, Array.replicate_succ, Array.replicate_zero, List.push_toArray, List.append_toArray, List.nil_append, List.cons_append]
  gi_wp2
  go_ret
  exact ⟨rfl, rfl⟩
end Go.Proofs.YthlbciinpidedaaGreat
/- A drawn region in a round of a loop: what holds of it in the open holds there. -/
namespace Go.Proofs.YthlbciinpidedaaGreat
set_option linter.unusedSimpArgs false
set_option linter.unusedVariables false
set_option maxRecDepth 100000
open Go.RowKit

abbrev wideAt (r : Option Nat) : Fence := { Fence.wide with round := r }
theorem wpIn_op_of_wp {r : Option Nat} {n : Nat} {P : Program} {o : Oper} {a : Act} {w : World} {K : Act → World → Prop} {Q : Exit → Act → World → Prop} (hd : ∀ c, o.op ≠ .defer c) (h : o.wp P a w K Q) : o.wpIn (wideAt r) n P a w K Q := by
  refine ⟨fun _ _ => trivial, ?_⟩
  unfold Oper.wp at h
  rw [Oper.semAt_eq _ _ _ hd]
  generalize (execOp a.eval o).run P w = x at *
  cases x with
  | ok x w' =>
    cases x <;> simp only [Oper.upon] at h <;> simp only [Oper.uponIn] <;>
      first
        | exact h
        | exact ⟨fun h' => by simp [wideAt, Fence.wide] at h', (callsIn_wide (n := n - 1)).2 h⟩
        | exact ⟨fun h' => by simp [wideAt, Fence.wide] at h', fun c cs _ => let ⟨v, w', r, s⟩ := h c cs; ⟨v, w', r, (StepsIn.of_steps s).mono fun m _ => fenced_wide P m⟩⟩
  | halt x w' => cases x <;> simp only [Oper.upon] at h <;> simp only [Oper.uponIn] <;> exact h
def noDefer (ops : Array Oper) : Bool := ops.all fun o => match o.op with
  | .defer _ => false
  | _ => true
theorem noDefer_spec {ops : Array Oper} (h : noDefer ops = true) (i : Nat) (o : Oper) (hi : ops[i]? = some o) : ∀ c, o.op ≠ .defer c := by
  intro c hc
  have h1 := (Array.all_eq_true'.1 h) o (Array.mem_of_getElem? hi)
  simp [hc] at h1
section
variable {r : Option Nat} {n : Nat} {P : Program} {ops : Array Oper} {Q : Exit → Act → World → Prop} {md : Region.Mode}
theorem wpIn_opAt_of_wp (hn : noDefer ops = true) (hL : ¬ LetsOut Q) {i : Nat} {K : Act → World → Prop} {a : Act} {w : World} (h : wpOp P ops Q i K a w) : wpOpIn (wideAt r) n P ops Q i K a w := by
  unfold wpOp at h
  unfold wpOpIn
  cases hi : ops[i]? with
  | none => simpa [hi] using h
  | some o =>
    simp only [hi] at h ⊢
    split
    · rename_i hw
      simp only [hw, if_true] at h
      rcases h with h | h
      · exact wpIn_op_of_wp (noDefer_spec hn i o hi) h
      · exact absurd h.2 hL
    · rename_i hw
      simp only [hw] at h
      exact ⟨fun _ _ => trivial, h⟩
theorem wpAnyIn_of_wpAny (hn : noDefer ops = true) (hL : ¬ LetsOut Q) : ∀ (fuel : Nat) (listed : Array Bool) (a : Act) (w : World), wpAny P md ops Q fuel listed a w → wpAnyIn (wideAt r) n P md ops Q fuel listed a w
  | 0, _, _, _, h => h
  | fuel + 1, _, _, _, h => ⟨h.1, fun i hi => wpIn_opAt_of_wp hn hL (wpOp_mono (fun a w h' => wpAnyIn_of_wpAny hn hL fuel _ a w h') (h.2 i hi))⟩
variable {R E : World → World → Prop}
theorem wpIn_region_takes (G : Grow2 R E) (T : List Nat) (l : List (Nat × Bool)) (fuel : Nat) {id : Nat} {ops : List Oper} {a : Act} {w : World} (hm : P.follows .mixedOrders = true) (hs : Region.noSelect ops.toArray = true) (hn : noDefer ops.toArray = true) (hL : ¬ LetsOut Q)
    (hl : l.length + fuel = ops.length) (hB : Region.takesB .any ops.toArray T l (Array.replicate ops.length false) = true) (hQ : Steady Q)
    (h : wpTakes P .any ops Q R E T fuel l (Array.replicate ops.length false) a w.drew) : (Code.region id ops.toArray true).wpIn (wideAt r) n P Q a w := by
  refine wpIn_region_any hm (wpAnyIn_of_wpAny hn hL _ _ _ _ (wpAny_of_E G (T := T) _ _ _ _ ?_))
  have := wpAnyE_takes G hs hQ fuel l _ a _ hB h
  rw [hl] at this
  simpa using this
/-- What holds where it ends. -/
def Post (C : Act → World → Prop) : Exit → Act → World → Prop
  | .normal, a, w => C a w
  | _, _, _ => False
theorem post_intro {C : Act → World → Prop} {a : Act} {w : World} (h : C a w) : Post C .normal a w := h
theorem post_lets {C : Act → World → Prop} : ¬ LetsOut (Post C) := fun ⟨_, _, h⟩ => h
theorem wpOpIn_monoQ {F : Fence} {C : Act → World → Prop} {Q : Exit → Act → World → Prop} {i : Nat} {K : Act → World → Prop} {a : Act} {w : World} (h : wpOpIn F n P ops (Post C) i K a w) : wpOpIn F n P ops Q i K a w := by
  unfold wpOpIn at *
  cases hi : ops[i]? with
  | none => simpa [hi] using h
  | some o =>
    simp only [hi] at h ⊢
    split
    · rename_i hw
      simp only [hw, if_true] at h
      refine ⟨h.1, ?_⟩
      have h := h.2
      generalize (o.semAt F.round a.eval).run P w = r at *
      cases r with
      | ok x w' =>
        cases x <;> simp only [Oper.uponIn] at h ⊢ <;>
          first
            | exact h
            | exact ⟨h.1, CallsIn.mono h.2 (fun e w'' he => by cases e <;> first | exact he | exact absurd he post_lets | exact he.elim)⟩
            | exact ⟨h.1, RoundIn.mono h.2 (fun e w'' he => by cases e <;> first | exact he | exact absurd he post_lets | exact he.elim)⟩
      | halt x w' => cases x <;> simp only [Oper.uponIn] at h ⊢ <;> first | exact h | exact h.elim
    · rename_i hw
      simp only [hw] at h
      exact h
theorem wpAnyIn_monoQ {F : Fence} {C : Act → World → Prop} {Q : Exit → Act → World → Prop} (hC : ∀ a w, C a w → Q .normal a w) : ∀ (fuel : Nat) (listed : Array Bool) (a : Act) (w : World), wpAnyIn F n P md ops (Post C) fuel listed a w → wpAnyIn F n P md ops Q fuel listed a w
  | 0, _, _, _, h => ⟨h.1, hC _ _ h.2⟩
  | fuel + 1, _, _, _, h => ⟨fun e => hC _ _ (h.1 e), fun i hi => wpOpIn_monoQ (wpOpIn_mono (fun a w h' => wpAnyIn_monoQ hC fuel _ a w h') (h.2 i hi))⟩
theorem post_steady {C : Act → World → Prop} : Steady (Post C) := fun _ _ _ _ _ h => h
/-- A drawn region in a round, its end told first. -/
theorem wpIn_region_cut (C : Act → World → Prop) (G : Grow2 R E) (T : List Nat) (l : List (Nat × Bool)) (fuel : Nat) {id : Nat} {ops : List Oper} {a : Act} {w : World} (hm : P.follows .mixedOrders = true) (hs : Region.noSelect ops.toArray = true) (hn : noDefer ops.toArray = true)
    (hl : l.length + fuel = ops.length) (hB : Region.takesB .any ops.toArray T l (Array.replicate ops.length false) = true)
    (h : wpTakes P .any ops (Post C) R E T fuel l (Array.replicate ops.length false) a w.drew) (hC : ∀ a w, C a w → Q .normal a w) : (Code.region id ops.toArray true).wpIn (wideAt r) n P Q a w := by
  refine wpIn_region_any hm (wpAnyIn_monoQ hC _ _ _ _ (wpAnyIn_of_wpAny hn post_lets _ _ _ _ (wpAny_of_E G (T := T) _ _ _ _ ?_)))
  have := wpAnyE_takes G hs post_steady fuel l _ a _ hB h
  rw [hl] at this
  simpa using this
/-- What the one at hand keeps back, by way of others too. -/
def Held (md : Region.Mode) (ops : Array Oper) (T D : List Nat) (i : Nat) (listed : Array Bool) : Prop :=
  (∀ j ∈ D, listed.getD j true = false ∧ ∃ oj, ops[j]? = some oj ∧ ∃ e ∈ oj.after, Region.binds md e = true ∧ (e.on = i ∨ e.on ∈ D)) ∧ ∀ j ∈ T, listed.getD j true = true ∨ j ∈ D
def heldB (md : Region.Mode) (ops : Array Oper) (T D : List Nat) (i : Nat) (listed : Array Bool) : Bool :=
  (D.all fun j => !(listed.getD j true) && match ops[j]? with
    | some oj => oj.after.any fun e => Region.binds md e && (e.on == i || D.contains e.on)
    | none => false) && T.all fun j => listed.getD j true || D.contains j
theorem heldB_spec {ops : Array Oper} {T D : List Nat} {i : Nat} {listed : Array Bool} (h : heldB md ops T D i listed = true) : Held md ops T D i listed := by
  simp only [heldB, Bool.and_eq_true, List.all_eq_true] at h
  refine ⟨fun j hj => ?_, fun j hj => ?_⟩
  · have h1 := h.1 j hj
    simp only [Bool.and_eq_true, Bool.not_eq_true'] at h1
    refine ⟨h1.1, ?_⟩
    have h2 := h1.2
    cases ho : ops[j]? with
    | none => simp [ho] at h2
    | some oj =>
      simp only [ho] at h2
      obtain ⟨e, he, hb⟩ := Array.any_eq_true'.1 h2
      simp only [Bool.and_eq_true, Bool.or_eq_true, beq_iff_eq, List.contains_iff_mem] at hb
      exact ⟨oj, rfl, e, he, hb.1, hb.2⟩
  · have h1 := h.2 j hj
    simpa using h1
theorem wpAnyE_firstD (G : Grow2 R E) {Q : Exit → Act → World → Prop} {T : List Nat} (D : List Nat) {i : Nat} {oi : Oper} {v : Value} (hi : ops[i]? = some oi) (hsel : ∀ (j : Nat) (o : Oper) cs b, ops[j]? = some o → o.op ≠ .select cs b)
    (hQ : ∀ c a w, Q (.panic c) (a.put oi.dst v) w → Q (.panic c) a w) :
    ∀ (fuel : Nat) (listed : Array Bool) (a : Act) (w : World),
      (∀ j oj, ops[j]? = some oj → j ≠ i → listed.getD j true = false → (∀ e ∈ oj.after, Region.binds md e = true → e.on ≠ i) → oi.apart ops oj = true) →
      Held md ops T D i listed →
      i ∈ Region.ready md ops listed → YieldsE P ops R E false w oi v a →
      wpAnyE P md ops Q R E T fuel (listed.setIfInBounds i true) (a.put oi.dst v) w → wpAnyE P md ops Q R E T (fuel + 1) listed a w := by
  intro fuel
  induction fuel with
  | zero =>
    intro listed a w _ _ hr hy H w1 hw1
    refine ⟨fun h => (by rw [h] at hr; cases hr), fun j hj => ?_⟩
    by_cases hji : j = i
    · subst hji; exact wpOp_of_K hi (hy w1 (.inr (G.sub _ _ hw1))) G.small fun w' hR => ⟨fun _ => G.sub _ _ hR, wpAnyE_mono G H (G.small.trans _ _ _ hw1 hR)⟩
    · have := ready_mono hj hji
      rw [H.1] at this
      cases this
  | succ fuel ih =>
    intro listed a w hfree hwait hr hy H w1 hw1
    refine ⟨fun h => (by rw [h] at hr; cases hr), fun j hj => ?_⟩
    by_cases hji : j = i
    · subst hji; exact wpOp_of_K hi (hy w1 (.inr (G.sub _ _ hw1))) G.small fun w' hR => ⟨fun _ => G.sub _ _ hR, wpAnyE_mono G H (G.small.trans _ _ _ hw1 hR)⟩
    · have h1 := (H w1 hw1).2 j (ready_mono hj hji)
      obtain ⟨hjun, oj, hoj, hall⟩ := mem_ready.1 hj
      have hiun : listed.getD i true = false := (mem_ready.1 hr).1
      have hoff : ∀ k, k = i ∨ k ∈ D → listed.getD k true = false := fun k hk => by
        rcases hk with rfl | hk
        · exact hiun
        · exact (hwait.1 k hk).1
      have hnotk : ∀ e ∈ oj.after, Region.binds md e = true → ¬ (e.on = i ∨ e.on ∈ D) := fun e he hb heq => by
        have h1 := hall e he hb
        have h0 := hoff _ heq
        rcases Nat.lt_or_ge e.on listed.size with h' | h'
        · simp [h'] at h0 h1; rw [h0] at h1; cases h1
        · simp [Array.getElem?_eq_none h'] at h1
      have hnot : ∀ e ∈ oj.after, Region.binds md e = true → e.on ≠ i := fun e he hb heq => hnotk e he hb (.inl heq)
      have hjD : j ∉ D := fun hjD => by
        obtain ⟨_, oj', ho', e, he, hb, hor⟩ := hwait.1 j hjD
        rw [hoj] at ho'
        cases ho'
        exact hnotk e he hb hor
      have h2 := wpOp_putE (R := R) (E := E) (p := false) hoj (hfree j oj hoj hji hjun hnot) (fun cs b => hsel i oi cs b hi) (fun cs b => hsel j oj cs b hoj) hQ h1
      have hun' : ∀ k, (listed.setIfInBounds j true).getD k true = false → listed.getD k true = false := fun k hun => by
        by_cases hjk : j = k
        · subst hjk; exact hjun
        · rw [getD_set_ne true hjk] at hun; exact hun
      have hfree' : ∀ k ok, ops[k]? = some ok → k ≠ i → (listed.setIfInBounds j true).getD k true = false →
          (∀ e ∈ ok.after, Region.binds md e = true → e.on ≠ i) → oi.apart ops ok = true := fun k ok hk hki hun hno => hfree k ok hk hki (hun' k hun) hno
      have hwait' : Held md ops T D i (listed.setIfInBounds j true) := by
        refine ⟨fun k hk => ⟨?_, (hwait.1 k hk).2⟩, fun k hk => ?_⟩
        · rw [getD_set_ne true (fun e => hjD (by rw [e]; exact hk))]
          exact (hwait.1 k hk).1
        · rcases hwait.2 k hk with h | h
          · by_cases hjk : j = k
            · subst hjk; rw [h] at hjun; cases hjun
            · rw [getD_set_ne true hjk]; exact .inl h
          · exact .inr h
      have hjT : j ∉ T := fun hT => by
        rcases hwait.2 j hT with h | h
        · rw [h] at hjun; cases hjun
        · exact hjD h
      refine wpOp_mono (fun a' w' h3 => ⟨h3.2.1, ih (listed.setIfInBounds j true) a' w' hfree' hwait' (ready_mono hr (Ne.symm hji)) ((h3.1 w hy).mono G (.inr (G.big.trans _ _ _ (G.sub _ _ hw1) (h3.2.1 hjT)))) ?_⟩) h2
      rw [Array.setIfInBounds_comm _ _ hji]
      exact h3.2.2
/-- One that yields the same while others of T wait for it, by way of D. -/
theorem wpAnyE_takeD (G : Grow2 R E) {Q : Exit → Act → World → Prop} {T : List Nat} {ops : List Oper} {fuel : Nat} {listed : Array Bool} {a : Act} {w : World} (i : Nat) (D : List Nat) {o : Oper} {v : Value} (hs : Region.noSelect ops.toArray = true) (hQ : Steady Q) (hi : ops[i]? = some o)
    (hB : ((Region.ready md ops.toArray listed).contains i && Region.free md ops.toArray listed i && heldB md ops.toArray T D i listed) = true)
    (hy : ∀ w1, R w w1 → KGoal P ops.toArray E w1 o v a) (h : wpAnyE P md ops.toArray Q R E T fuel (listed.setIfInBounds i true) (a.put o.dst v) w) : wpAnyE P md ops.toArray Q R E T (fuel + 1) listed a w := by
  simp only [Bool.and_eq_true] at hB
  have ho' : ops.toArray[i]? = some o := by simpa using hi
  exact wpAnyE_firstD G D ho' (Region.noSelect_spec hs) (fun c a w => hQ c a o.dst v w) fuel listed a w (Region.free_spec ho' hB.1.2) (heldB_spec hB.2) (by simpa using hB.1.1) (fun w1 h1 => hy w1 (h1.resolve_left (by simp))) h
theorem wpOp_monoQ {C : Act → World → Prop} {Q : Exit → Act → World → Prop} {i : Nat} {K : Act → World → Prop} {a : Act} {w : World} (h : wpOp P ops (Post C) i K a w) : wpOp P ops Q i K a w := by
  unfold wpOp at *
  cases hi : ops[i]? with
  | none => simpa [hi] using h
  | some o =>
    simp only [hi] at h ⊢
    split
    · rename_i hw
      simp only [hw, if_true] at h
      rcases h with h | h
      · refine .inl ?_
        unfold Oper.wp at *
        generalize (execOp a.eval o).run P w = r at *
        cases r with
        | ok x w' =>
          cases x <;> simp only [Oper.upon] at h ⊢ <;>
            first
              | exact h
              | exact Calls.mono h (fun e w'' he => by cases e <;> first | exact he | exact absurd he post_lets | exact he.elim)
        | halt x w' => cases x <;> simp only [Oper.upon] at h ⊢ <;> first | exact h | exact h.elim
      · exact absurd h.2 post_lets
    · rename_i hw
      simp only [hw] at h
      exact h
theorem wpAny_monoQ {C : Act → World → Prop} {Q : Exit → Act → World → Prop} (hC : ∀ a w, C a w → Q .normal a w) : ∀ (fuel : Nat) (listed : Array Bool) (a : Act) (w : World), wpAny P md ops (Post C) fuel listed a w → wpAny P md ops Q fuel listed a w
  | 0, _, _, _, h => ⟨h.1, hC _ _ h.2⟩
  | fuel + 1, _, _, _, h => ⟨fun e => hC _ _ (h.1 e), fun i hi => wpOp_monoQ (wpOp_mono (fun a w h' => wpAny_monoQ hC fuel _ a w h') (h.2 i hi))⟩
/-- A drawn region that does not panic, whatever its surroundings. -/
theorem wp_region_ordN (G : Grow R) (ord : List (Nat × Bool)) (T : List Nat) {id : Nat} {ops : List Oper} {a : Act} {w : World} (hm : P.follows .mixedOrders = true) (hs : Region.noSelect ops.toArray = true)
    (hl : ord.length = ops.length) (hB : Region.ordB .any ops.toArray T ord (Array.replicate ops.length false) = true)
    (h : wpOrd P ops (Post (Q .normal)) R T ord a w.drew) : (Code.region id ops.toArray true).wp P Q a w := by
  refine wp_region_any hm (wpAny_monoQ (fun _ _ h => h) _ _ _ _ (wpAny_of_K G (T := T) _ _ _ _ ?_))
  have := wpAnyK_ord G hs post_steady ord _ a _ hB h
  rw [hl] at this
  simpa using this
theorem wp_region_takesN (G : Grow2 R E) (T : List Nat) (l : List (Nat × Bool)) (fuel : Nat) {id : Nat} {ops : List Oper} {a : Act} {w : World} (hm : P.follows .mixedOrders = true) (hs : Region.noSelect ops.toArray = true)
    (hl : l.length + fuel = ops.length) (hB : Region.takesB .any ops.toArray T l (Array.replicate ops.length false) = true)
    (h : wpTakes P .any ops (Post (Q .normal)) R E T fuel l (Array.replicate ops.length false) a w.drew) : (Code.region id ops.toArray true).wp P Q a w := by
  refine wp_region_any hm (wpAny_monoQ (fun _ _ h => h) _ _ _ _ (wpAny_of_E G (T := T) _ _ _ _ ?_))
  have := wpAnyE_takes G hs post_steady fuel l _ a _ hB h
  rw [hl] at this
  simpa using this
theorem wpAnyE_tail {T : List Nat} {fuel : Nat} {listed : Array Bool} {a : Act} {w : World} (listed0 : Array Bool) (fuel0 : Nat) (C : Act → World → Prop) (h0 : ∀ a w, C a w → wpAnyE P md ops Q R E T fuel0 listed0 a w)
    (h : (∀ listed a w, listed = listed0 → C a w → wpAnyE P md ops Q R E T fuel0 listed a w) → wpAnyE P md ops Q R E T fuel listed a w) : wpAnyE P md ops Q R E T fuel listed a w := h fun _ a w e => by subst e; exact h0 a w
theorem Grow2.and {R1 R2 E : World → World → Prop} (G : Grow2 R1 E) (H : Grow2 R2 E) : Grow2 (fun a b => R1 a b ∧ R2 a b) E :=
  ⟨⟨fun w => ⟨G.big.refl w, H.big.refl w⟩, fun a b c h h' => ⟨G.big.trans _ _ _ h.1 h'.1, H.big.trans _ _ _ h.2 h'.2⟩⟩, G.small, fun a b h => ⟨G.sub _ _ h, H.sub _ _ h⟩⟩
/-- append of one, the row among others. -/
theorem wp_app_now {K : Act → World → Prop} {o : Oper} {a : Act} (s x : Operand) (t e : TypeId) (ho : o.op = .call { callee := .builtin .append, args := #[s, x], argTypes := #[t, t] }) (ht : P.underlying t = some (.slice e)) {i : TypeInfo} {z : Value} {bytes : Nat}
    (hi : P.info? e = some i) (hz : i.zero = some z) (hsize : i.size = 1) (hby : i.bytes = bytes) (hzs : z.cells.size = 1) {S0 : Nat → Prop} {w0 w : World} {pre post : List Thing} {v u : Value} {N kb : Nat} {xs : List Value}
    (hS : Now S0 w0 w (pre ++ Thing.row e 1 v N xs :: post)) (hb : Blk w kb e #[u]) (hs : a.eval s = v) (hx : a.eval x = .slice (some ⟨kb, 0, none⟩) 1 1) (h1 : u.oneCell' = true) (h63 : N + 1 ≤ maxLen) (hbytes : (N + 1) * bytes ≤ 140737488355328)
    (h : ∀ g cap w', w.heap.size ≤ w'.heap.size → Now S0 w0 w' (pre ++ Thing.row e 1 (.slice (some ⟨g, 0, none⟩) (N + 1) cap) (N + 1) (xs ++ [u]) :: post) → K (a.put o.dst (.slice (some ⟨g, 0, none⟩) (N + 1) cap)) w') : o.wp P a w K Q := by
  refine wp_append_lies w s x t ho 0 e i z 1 bytes ht hi hz hsize hby hzs (by omega) v N xs hs (Now.row hS) ⟨kb, 0, none⟩ 1 1 [u] hx rfl (fun j u' hu => World.news_of_block (cs := #[u]) hb j u' hu) (by simpa using h1) (by omega) h63 hbytes (Nat.zero_le _) w.heap.size rfl ?_
  intro g cap w' h2 h3 h4 _
  refine h g cap w' h3.size (Now.grown hS h2 h3 ?_)
  rcases h4 with h4 | rfl
  · exact .inl (by rw [h4]; rfl)
  · exact .inr ⟨_, Nat.le_refl _, rfl⟩
end
end Go.Proofs.YthlbciinpidedaaGreat
