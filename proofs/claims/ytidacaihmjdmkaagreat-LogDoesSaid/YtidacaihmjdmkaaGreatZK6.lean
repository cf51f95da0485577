/- What the laws of this seat lean on, part 6. -/
import Derived.Test.YtidacaihmjdmkaaGreatZK5
import Derived.Deep.DeepCutAuto
import Derived.Laws.ResultCell
import Derived.RangeFuncNested
import Derived.RangeFuncBound
import Derived.RangeFuncCalls
import Derived.RangeFuncLeaves
import Derived.RangeFuncBox
import Derived.Shelf.Abstract
import Derived.Shelf.RegionOpen
import Derived.WalkKit
import Derived.OwnWalkIn
import Derived.TacticsInMore
import Derived.LoopNIn
import Derived.LoopIn
set_option linter.unusedSimpArgs false
set_option linter.unusedVariables false
set_option maxRecDepth 100000
namespace Go.Proofs.YtidacaihmjdmkaaGreat
open Go.RowKit
attribute [local go_sem high] run_mx run_mn
abbrev tabParts (T : Tab) (AO : Option Addr) (cO : Nat) (AL : Option Addr) (cL : Nat) (AF : Option Addr) (cF : Nat) : List Thing :=
  [Thing.row 3 1 (.slice AO T.order.length cO) T.order.length (ints T.order),Thing.row 3 1 (.slice AL T.lens.length cL) T.lens.length (ints T.lens),Thing.row 43 1 (.slice AF T.firsts.length cF) T.firsts.length (u64s T.firsts)]
def OwnTab (w w' : World) (T : Tab) (e : Ending) : Prop := ∃ AO cO AL cL AF cF,e = .returned (.agg (tabCells T AO cO AL cL AF cF)) ∧ Sep w w' (tabParts T AO cO AL cL AF cF)
structure Tab.Short (T : Tab) : Prop where
  o : T.order.length ≤ 1000
  l : T.lens.length ≤ 1000
  f : T.firsts.length ≤ 1000
theorem own_last {w v : World} {T : Tab} {AO : Option Addr} {cO : Nat} {AL : Option Addr} {cL : Nat} {AF : Option Addr} {cF x y : Nat} {L : List Thing} {o l f : Value} (hS : Sep w v (Thing.cells x 64 (tabCells T AO cO AL cL AF cF) :: Thing.cells y 64 #[.int .i64 0, .int .i64 0, .slice none 0 0, .slice none 0 0, .slice none 0 0] :: L)) :
    v.cell? ⟨x,0,none⟩ = some (.int .i64 T.segs) ∧ v.cell? ⟨x,1,none⟩ = some (.int .i64 T.slots) ∧ (∀ k,v.frozen? ⟨y,k,none⟩ = false) ∧ v.cell? ⟨y,0,none⟩ = some (.int .i64 0) ∧ v.cell? ⟨y,1,none⟩ = some (.int .i64 0) ∧ v.cell? ⟨y,2,none⟩ = some (.slice none 0 0) ∧ v.cell? ⟨y,3,none⟩ = some (.slice none 0 0) ∧ v.cell? ⟨y,4,none⟩ = some (.slice none 0 0) ∧
    Hid (Sep w (((((v.setCell ⟨y,0,none⟩ (.int .i64 T.segs)).setCell ⟨y,1,none⟩ (.int .i64 T.slots)).setCell ⟨y,2,none⟩ o).setCell ⟨y,3,none⟩ l).setCell ⟨y,4,none⟩ f) (Thing.cells x 64 (tabCells T AO cO AL cL AF cF) :: Thing.cells y 64 #[.int .i64 T.segs, .int .i64 T.slots,o,l,f] :: L)) := by
  have hb := Now.blk (pre:=[]) hS
  have hr := Now.blk (pre:=[_]) hS
  exact ⟨hb.cell 0,hb.cell 1,fun k => hr.frozen k,hr.cell 0,hr.cell 1,hr.cell 2,hr.cell 3,hr.cell 4,Lib.hid (Now.set5 (pre:=[_]) hS _ _ o l f)⟩
set_option maxHeartbeats 8000000 in
theorem own_any (T : Tab) (hT : T.Short) (AO : Option Addr) (cO : Nat) (AL : Option Addr) (cL : Nat) (AF : Option Addr) (cF : Nat) (w : World) (h : TabIn w w.heap.size T AO AL AF) :
    Calls Tryz.prog 151 #[.agg (tabCells T AO cO AL cL AF cF)] w fun e w' => OwnTab w w' T e := by
  obtain ⟨i0,hi0,hz0,hz1,hz2⟩ := info_parts infoInt
  obtain ⟨j0,hj0,hy0,hy1,hy2⟩ := info_parts infoU64
  have n1 : T.order.length ≤ maxLen := by have := hT.o;unfold maxLen;omega
  have n2 : T.lens.length ≤ maxLen := by have := hT.l;unfold maxLen;omega
  have n3 : T.firsts.length ≤ maxLen := by have := hT.f;unfold maxLen;omega
  have hmk1 : ∀ v,(Instr.makeSlice 51 (.int .i64 T.order.length) (.int .i64 T.order.length)).run Tryz.prog v = .ok (.slice (some ⟨v.heap.size,0,none⟩) T.order.length T.order.length) (v.alloc (.cells (madeCells #[.int .i64 0] T.order.length) 3)) := fun v => by
    have := run_makeSlice (P := Tryz.prog) v 51 3 i0 _ Tryz.underlying51 hi0 hz0 .i64 .i64 (T.order.length : Int) (T.order.length : Int) (by omega) (by omega) (by have := hT.o;rw [hz1];simp;omega) (by have := hT.o;rw [hz2];omega) (by have := hT.o;omega)
    rw [hz1,Nat.mul_one] at this;exact this
  have hmk2 : ∀ v,(Instr.makeSlice 51 (.int .i64 T.lens.length) (.int .i64 T.lens.length)).run Tryz.prog v = .ok (.slice (some ⟨v.heap.size,0,none⟩) T.lens.length T.lens.length) (v.alloc (.cells (madeCells #[.int .i64 0] T.lens.length) 3)) := fun v => by
    have := run_makeSlice (P := Tryz.prog) v 51 3 i0 _ Tryz.underlying51 hi0 hz0 .i64 .i64 (T.lens.length : Int) (T.lens.length : Int) (by omega) (by omega) (by have := hT.l;rw [hz1];simp;omega) (by have := hT.l;rw [hz2];omega) (by have := hT.l;omega)
    rw [hz1,Nat.mul_one] at this;exact this
  have hmk3 : ∀ v,(Instr.makeSlice 62 (.int .i64 T.firsts.length) (.int .i64 T.firsts.length)).run Tryz.prog v = .ok (.slice (some ⟨v.heap.size,0,none⟩) T.firsts.length T.firsts.length) (v.alloc (.cells (madeCells #[.int .u64 0] T.firsts.length) 43)) := fun v => by
    have := run_makeSlice (P := Tryz.prog) v 62 43 j0 _ Tryz.underlying62 hj0 hy0 .i64 .i64 (T.firsts.length : Int) (T.firsts.length : Int) (by omega) (by omega) (by have := hT.f;rw [hy1];simp;omega) (by have := hT.f;rw [hy2];omega) (by have := hT.f;omega)
    rw [hy1,Nat.mul_one] at this;exact this
  have HM1 := Lib.hid hmk1
  have HM2 := Lib.hid hmk2
  have HM3 := Lib.hid hmk3
  have hs1 : (Tryz.prog.info? 3).map (·.size) = some 1 := by kernel_rfl
  have hs2 : (Tryz.prog.info? 43).map (·.size) = some 1 := by kernel_rfl
  have hS : Sep w ((w.alloc (.cells (tabCells T AO cO AL cL AF cF) 64)).alloc (.cells #[.int .i64 0, .int .i64 0, .slice none 0 0, .slice none 0 0, .slice none 0 0] 64)) [Thing.cells w.heap.size 64 (tabCells T AO cO AL cL AF cF),Thing.cells (w.heap.size + 1) 64 #[.int .i64 0, .int .i64 0, .slice none 0 0, .slice none 0 0, .slice none 0 0],Thing.none_,Thing.none_,Thing.none_] := by
    have a := Now.swap (Now.pushCells (Now.pushCells (Now.pushNone (Now.pushNone (Now.pushNone (Sep.start w)))) 64 (tabCells T AO cO AL cL AF cF)) 64 #[.int .i64 0, .int .i64 0, .slice none 0 0, .slice none 0 0, .slice none 0 0])
    simpa using a
  clear hmk1 hmk2 hmk3
  go_enter Tryz.func151,Tryz.ntmps151
  go_wp2_with fail
  generalize (w.alloc (.cells (tabCells T AO cO AL cL AF cF) 64)).alloc (.cells #[.int .i64 0, .int .i64 0, .slice none 0 0, .slice none 0 0, .slice none 0 0] 64) = wb at hS ⊢
  have hb := Now.blk (pre:=[]) hS
  have HB : w.heap.size ≤ wb.drew.heap.size := hS.size
  have hlt : w.heap.size < wb.heap.size := hb.lt
  have hcell : ∀ w1,Below wb.heap.size wb.drew w1 → w1.cell? ⟨w.heap.size,2,none⟩ = some (.slice AO T.order.length cO) ∧ w1.cell? ⟨w.heap.size,3,none⟩ = some (.slice AL T.lens.length cL) ∧ w1.cell? ⟨w.heap.size,4,none⟩ = some (.slice AF T.firsts.length cF) := fun w1 h1 => by
    have hb1 := Blk.below (w := wb.drew) hb h1 hlt
    exact ⟨hb1.cell 2,hb1.cell 3,hb1.cell 4⟩
  replace HB : wb.heap.size ≤ wb.drew.heap.size := Nat.le_refl _
  replace hS := hS.drew
  have hmk1 := HM1.out
  have hmk2 := HM2.out
  have hmk3 := HM3.out
  clear hb hlt
  go_cut [3,4,5] from 6 to 17 (fun o l f wx => ∃ kb1 kb2 kb3 : Nat,o = .slice (some ⟨kb1,0,none⟩) T.order.length T.order.length ∧ l = .slice (some ⟨kb2,0,none⟩) T.lens.length T.lens.length ∧ f = .slice (some ⟨kb3,0,none⟩) T.firsts.length T.firsts.length ∧
      Sep w wx [Thing.cells w.heap.size 64 (tabCells T AO cO AL cL AF cF),Thing.cells (w.heap.size + 1) 64 #[.int .i64 0, .int .i64 0, .slice none 0 0, .slice none 0 0, .slice none 0 0],Thing.row 3 1 (.slice (some ⟨kb1,0,none⟩) T.order.length T.order.length) T.order.length (madeCells #[(.int .i64 0)] T.order.length).toList,Thing.row 3 1 (.slice (some ⟨kb2,0,none⟩) T.lens.length T.lens.length) T.lens.length (madeCells #[(.int .i64 0)] T.lens.length).toList,Thing.row 43 1 (.slice (some ⟨kb3,0,none⟩) T.firsts.length T.firsts.length) T.firsts.length (madeCells #[(.int .u64 0)] T.firsts.length).toList])
  case rest =>
    clear hS hcell
    obtain ⟨kb1,kb2,kb3,rfl,rfl,rfl,hS⟩ := hcut
    have hb0 := Now.blk (pre:=[]) hS
    have c2 : _ = some (Value.slice AO T.order.length cO) := hb0.cell 2
    clear hb0
    go_wp2_with (first
      | (refine wpList_copy_full (o := ⟨some 21,_,_,_,_,_⟩) rfl _ _ 51 rfl 3 Tryz.underlying51 hs1 (pre:=[_,_]) hS rfl rfl (h.o.below (Sep.base hS)) (ints_one _) ?_;intro v1 hS1;have hb1 := Now.blk (pre:=[]) hS1;have c3 : v1.cell? ⟨w.heap.size,3,none⟩ = some (.slice AL T.lens.length cL) := hb1.cell 3;clear hS hb1 c2)
      | (refine wpList_copy_full (o := ⟨some 25,_,_,_,_,_⟩) rfl _ _ 51 rfl 3 Tryz.underlying51 hs1 (pre:=[_,_,_]) hS1 rfl rfl (h.l.below (Sep.base hS1)) (ints_one _) ?_;intro v2 hS2;have hb2 := Now.blk (pre:=[]) hS2;have c4 : v2.cell? ⟨w.heap.size,4,none⟩ = some (.slice AF T.firsts.length cF) := hb2.cell 4;clear hS1 hb2 c3)
      | (refine wpList_copy_full (o := ⟨some 29,_,_,_,_,_⟩) rfl _ _ 62 rfl 43 Tryz.underlying62 hs2 (pre:=[_,_,_,_]) hS2 rfl rfl (h.f.below (Sep.base hS2)) (u64s_one _) ?_;intro v3 hS3;obtain ⟨c0,c1,f,r0,r1,r2,r3,r4,hS4⟩ := own_last (o := .slice (some ⟨kb1,0,none⟩) T.order.length T.order.length) (l := .slice (some ⟨kb2,0,none⟩) T.lens.length T.lens.length) (f := .slice (some ⟨kb3,0,none⟩) T.firsts.length T.firsts.length) hS3;clear hS2 hS3 c4))
    refine bodyPost_ret (v := .agg (tabCells T (some ⟨kb1,0,none⟩) T.order.length (some ⟨kb2,0,none⟩) T.lens.length (some ⟨kb3,0,none⟩) T.firsts.length)) ?_ rfl ⟨_,_,_,_,_,_,rfl,Now.drop (pre:=[]) (Now.drop (pre:=[]) hS4.out)⟩
    exact results_cell_row rfl _ _ _ _ _ (0,0) _ (by simp) (Now.blk (pre:=[_]) hS4.out) Tryz.underlying64 rfl (by kernel_rfl)
  refine wp_region_takes (KeepB.grow wb.heap.size) [] [(0,false),(1,false),(2,false),(4,false),(5,false),(6,false),(8,false),(9,false),(10,false)] 6 (by kernel_rfl) (by kernel_rfl) rfl (by kernel_rfl) (by intro _ _ d _ _ h;cases d <;> exact h) ?_
  iterate 9
    (apply wpTakes_take
     · exact rfl
     · intro w1 hR1;have h1 := hR1 HB
       (obtain ⟨c2,c3,c4⟩ := hcell w1 h1)
       go_simp
       first
         | with_reducible exact ⟨rfl,sqN _⟩
     simp only [Act.put,sqA,sqB,sqC])
  refine wpTakes_done ?_
  clear hcell
  generalize wb.drew = wc at hS ⊢
  -- TREE
  refine wpAnyE_fork [3,7,11] (by kernel_rfl) (by simp) ?_
  refine List.forall_mem_cons.2 ⟨?_,List.forall_mem_cons.2 ⟨?_,List.forall_mem_cons.2 ⟨?_,List.forall_mem_nil _⟩⟩⟩
  · refine ⟨_,rfl,?_⟩
    intro w1 h1 K hK
    replace hS := Now.builtRow (pre:=[_,_]) (Now.below hS h1) 3 (madeCells #[(.int .i64 0)] T.order.length) T.order.length (size_madeCells _ _) n1
    go_simp
    refine hK _ _ (fun _ hB => (Below.refl _ _).alloc hB _) ?_
    clear hK K h1
    try simp only [Act.put,sqA,sqB,sqC]
    generalize w1.alloc (.cells (madeCells #[(.int .i64 0)] T.order.length) 3) = wc1 at hS ⊢
    generalize w1.heap.size = kb1 at hS ⊢
    clear w1
    apply wpAnyE_take (KeepB.grow wb.heap.size) 12
    · kernel_rfl
    · intro _ _ d _ _ h;cases d <;> exact h
    · exact rfl
    · kernel_rfl
    · intro w1 h1
      go_simp
      exact ⟨rfl,sqN _⟩
    try simp only [Act.put,sqA,sqB,sqC]
    refine wpAnyE_fork [7,11] (by kernel_rfl) (by simp) ?_
    refine List.forall_mem_cons.2 ⟨?_,List.forall_mem_cons.2 ⟨?_,List.forall_mem_nil _⟩⟩
    · refine ⟨_,rfl,?_⟩
      intro w1 h1 K hK
      replace hS := Now.builtRow (pre:=[_,_,_]) (Now.below hS h1) 3 (madeCells #[(.int .i64 0)] T.lens.length) T.lens.length (size_madeCells _ _) n2
      go_simp
      refine hK _ _ (fun _ hB => (Below.refl _ _).alloc hB _) ?_
      clear hK K h1
      try simp only [Act.put,sqA,sqB,sqC]
      generalize w1.alloc (.cells (madeCells #[(.int .i64 0)] T.lens.length) 3) = wc2 at hS ⊢
      generalize w1.heap.size = kb2 at hS ⊢
      clear w1
      apply wpAnyE_take (KeepB.grow wb.heap.size) 13
      · kernel_rfl
      · intro _ _ d _ _ h;cases d <;> exact h
      · exact rfl
      · kernel_rfl
      · intro w1 h1
        go_simp
        exact ⟨rfl,sqN _⟩
      try simp only [Act.put,sqA,sqB,sqC]
      refine wpAnyE_fork [11] (by kernel_rfl) (by simp) ?_
      refine sqM ?_
      · refine ⟨_,rfl,?_⟩
        intro w1 h1 K hK
        replace hS := Now.builtRow (pre:=[_,_,_,_]) (Now.below hS h1) 43 (madeCells #[(.int .u64 0)] T.firsts.length) T.firsts.length (size_madeCells _ _) n3
        go_simp
        refine hK _ _ (fun _ hB => (Below.refl _ _).alloc hB _) ?_
        clear hK K h1
        try simp only [Act.put,sqA,sqB,sqC]
        generalize w1.alloc (.cells (madeCells #[(.int .u64 0)] T.firsts.length) 43) = wc3 at hS ⊢
        generalize w1.heap.size = kb3 at hS ⊢
        clear w1
        apply wpAnyE_take (KeepB.grow wb.heap.size) 14
        · kernel_rfl
        · intro _ _ d _ _ h;cases d <;> exact h
        · exact rfl
        · kernel_rfl
        · intro w1 h1
          go_simp
          exact ⟨rfl,sqN _⟩
        try simp only [Act.put,sqA,sqB,sqC]
        refine wpAnyE_end (by kernel_rfl) fun w5 h5 => ?_
        replace hS := Now.below hS h5
        go_wp2_with fail
        go_meet
        exact ⟨_,_,_,rfl,rfl,rfl,hS⟩
    · refine ⟨_,rfl,?_⟩
      intro w1 h1 K hK
      replace hS := Now.builtRow (pre:=[_,_,_,_]) (Now.below hS h1) 43 (madeCells #[(.int .u64 0)] T.firsts.length) T.firsts.length (size_madeCells _ _) n3
      go_simp
      refine hK _ _ (fun _ hB => (Below.refl _ _).alloc hB _) ?_
      clear hK K h1
      try simp only [Act.put,sqA,sqB,sqC]
      generalize w1.alloc (.cells (madeCells #[(.int .u64 0)] T.firsts.length) 43) = wc2 at hS ⊢
      generalize w1.heap.size = kb3 at hS ⊢
      clear w1
      refine wpAnyE_fork [7] (by kernel_rfl) (by simp) ?_
      refine sqM ?_
      · refine ⟨_,rfl,?_⟩
        intro w1 h1 K hK
        replace hS := Now.builtRow (pre:=[_,_,_]) (Now.below hS h1) 3 (madeCells #[(.int .i64 0)] T.lens.length) T.lens.length (size_madeCells _ _) n2
        go_simp
        refine hK _ _ (fun _ hB => (Below.refl _ _).alloc hB _) ?_
        clear hK K h1
        try simp only [Act.put,sqA,sqB,sqC]
        generalize w1.alloc (.cells (madeCells #[(.int .i64 0)] T.lens.length) 3) = wc3 at hS ⊢
        generalize w1.heap.size = kb2 at hS ⊢
        clear w1
        apply wpAnyE_take (KeepB.grow wb.heap.size) 13
        · kernel_rfl
        · intro _ _ d _ _ h;cases d <;> exact h
        · exact rfl
        · kernel_rfl
        · intro w1 h1
          go_simp
          exact ⟨rfl,sqN _⟩
        try simp only [Act.put,sqA,sqB,sqC]
        apply wpAnyE_take (KeepB.grow wb.heap.size) 14
        · kernel_rfl
        · intro _ _ d _ _ h;cases d <;> exact h
        · exact rfl
        · kernel_rfl
        · intro w1 h1
          go_simp
          exact ⟨rfl,sqN _⟩
        try simp only [Act.put,sqA,sqB,sqC]
        refine wpAnyE_end (by kernel_rfl) fun w5 h5 => ?_
        replace hS := Now.below hS h5
        go_wp2_with fail
        go_meet
        exact ⟨_,_,_,rfl,rfl,rfl,hS⟩
  · refine ⟨_,rfl,?_⟩
    intro w1 h1 K hK
    replace hS := Now.builtRow (pre:=[_,_,_]) (Now.below hS h1) 3 (madeCells #[(.int .i64 0)] T.lens.length) T.lens.length (size_madeCells _ _) n2
    go_simp
    refine hK _ _ (fun _ hB => (Below.refl _ _).alloc hB _) ?_
    clear hK K h1
    try simp only [Act.put,sqA,sqB,sqC]
    generalize w1.alloc (.cells (madeCells #[(.int .i64 0)] T.lens.length) 3) = wc1 at hS ⊢
    generalize w1.heap.size = kb2 at hS ⊢
    clear w1
    refine wpAnyE_fork [3,11] (by kernel_rfl) (by simp) ?_
    refine List.forall_mem_cons.2 ⟨?_,List.forall_mem_cons.2 ⟨?_,List.forall_mem_nil _⟩⟩
    · refine ⟨_,rfl,?_⟩
      intro w1 h1 K hK
      replace hS := Now.builtRow (pre:=[_,_]) (Now.below hS h1) 3 (madeCells #[(.int .i64 0)] T.order.length) T.order.length (size_madeCells _ _) n1
      go_simp
      refine hK _ _ (fun _ hB => (Below.refl _ _).alloc hB _) ?_
      clear hK K h1
      try simp only [Act.put,sqA,sqB,sqC]
      generalize w1.alloc (.cells (madeCells #[(.int .i64 0)] T.order.length) 3) = wc2 at hS ⊢
      generalize w1.heap.size = kb1 at hS ⊢
      clear w1
      apply wpAnyE_take (KeepB.grow wb.heap.size) 12
      · kernel_rfl
      · intro _ _ d _ _ h;cases d <;> exact h
      · exact rfl
      · kernel_rfl
      · intro w1 h1
        go_simp
        exact ⟨rfl,sqN _⟩
      try simp only [Act.put,sqA,sqB,sqC]
      apply wpAnyE_take (KeepB.grow wb.heap.size) 13
      · kernel_rfl
      · intro _ _ d _ _ h;cases d <;> exact h
      · exact rfl
      · kernel_rfl
      · intro w1 h1
        go_simp
        exact ⟨rfl,sqN _⟩
      try simp only [Act.put,sqA,sqB,sqC]
      refine wpAnyE_fork [11] (by kernel_rfl) (by simp) ?_
      refine sqM ?_
      · refine ⟨_,rfl,?_⟩
        intro w1 h1 K hK
        replace hS := Now.builtRow (pre:=[_,_,_,_]) (Now.below hS h1) 43 (madeCells #[(.int .u64 0)] T.firsts.length) T.firsts.length (size_madeCells _ _) n3
        go_simp
        refine hK _ _ (fun _ hB => (Below.refl _ _).alloc hB _) ?_
        clear hK K h1
        try simp only [Act.put,sqA,sqB,sqC]
        generalize w1.alloc (.cells (madeCells #[(.int .u64 0)] T.firsts.length) 43) = wc3 at hS ⊢
        generalize w1.heap.size = kb3 at hS ⊢
        clear w1
        apply wpAnyE_take (KeepB.grow wb.heap.size) 14
        · kernel_rfl
        · intro _ _ d _ _ h;cases d <;> exact h
        · exact rfl
        · kernel_rfl
        · intro w1 h1
          go_simp
          exact ⟨rfl,sqN _⟩
        try simp only [Act.put,sqA,sqB,sqC]
        refine wpAnyE_end (by kernel_rfl) fun w5 h5 => ?_
        replace hS := Now.below hS h5
        go_wp2_with fail
        go_meet
        exact ⟨_,_,_,rfl,rfl,rfl,hS⟩
    · refine ⟨_,rfl,?_⟩
      intro w1 h1 K hK
      replace hS := Now.builtRow (pre:=[_,_,_,_]) (Now.below hS h1) 43 (madeCells #[(.int .u64 0)] T.firsts.length) T.firsts.length (size_madeCells _ _) n3
      go_simp
      refine hK _ _ (fun _ hB => (Below.refl _ _).alloc hB _) ?_
      clear hK K h1
      try simp only [Act.put,sqA,sqB,sqC]
      generalize w1.alloc (.cells (madeCells #[(.int .u64 0)] T.firsts.length) 43) = wc2 at hS ⊢
      generalize w1.heap.size = kb3 at hS ⊢
      clear w1
      refine wpAnyE_fork [3] (by kernel_rfl) (by simp) ?_
      refine sqM ?_
      · refine ⟨_,rfl,?_⟩
        intro w1 h1 K hK
        replace hS := Now.builtRow (pre:=[_,_]) (Now.below hS h1) 3 (madeCells #[(.int .i64 0)] T.order.length) T.order.length (size_madeCells _ _) n1
        go_simp
        refine hK _ _ (fun _ hB => (Below.refl _ _).alloc hB _) ?_
        clear hK K h1
        try simp only [Act.put,sqA,sqB,sqC]
        generalize w1.alloc (.cells (madeCells #[(.int .i64 0)] T.order.length) 3) = wc3 at hS ⊢
        generalize w1.heap.size = kb1 at hS ⊢
        clear w1
        apply wpAnyE_take (KeepB.grow wb.heap.size) 12
        · kernel_rfl
        · intro _ _ d _ _ h;cases d <;> exact h
        · exact rfl
        · kernel_rfl
        · intro w1 h1
          go_simp
          exact ⟨rfl,sqN _⟩
        try simp only [Act.put,sqA,sqB,sqC]
        apply wpAnyE_take (KeepB.grow wb.heap.size) 13
        · kernel_rfl
        · intro _ _ d _ _ h;cases d <;> exact h
        · exact rfl
        · kernel_rfl
        · intro w1 h1
          go_simp
          exact ⟨rfl,sqN _⟩
        try simp only [Act.put,sqA,sqB,sqC]
        apply wpAnyE_take (KeepB.grow wb.heap.size) 14
        · kernel_rfl
        · intro _ _ d _ _ h;cases d <;> exact h
        · exact rfl
        · kernel_rfl
        · intro w1 h1
          go_simp
          exact ⟨rfl,sqN _⟩
        try simp only [Act.put,sqA,sqB,sqC]
        refine wpAnyE_end (by kernel_rfl) fun w5 h5 => ?_
        replace hS := Now.below hS h5
        go_wp2_with fail
        go_meet
        exact ⟨_,_,_,rfl,rfl,rfl,hS⟩
  · refine ⟨_,rfl,?_⟩
    intro w1 h1 K hK
    replace hS := Now.builtRow (pre:=[_,_,_,_]) (Now.below hS h1) 43 (madeCells #[(.int .u64 0)] T.firsts.length) T.firsts.length (size_madeCells _ _) n3
    go_simp
    refine hK _ _ (fun _ hB => (Below.refl _ _).alloc hB _) ?_
    clear hK K h1
    try simp only [Act.put,sqA,sqB,sqC]
    generalize w1.alloc (.cells (madeCells #[(.int .u64 0)] T.firsts.length) 43) = wc1 at hS ⊢
    generalize w1.heap.size = kb3 at hS ⊢
    clear w1
    refine wpAnyE_fork [3,7] (by kernel_rfl) (by simp) ?_
    refine List.forall_mem_cons.2 ⟨?_,List.forall_mem_cons.2 ⟨?_,List.forall_mem_nil _⟩⟩
    · refine ⟨_,rfl,?_⟩
      intro w1 h1 K hK
      replace hS := Now.builtRow (pre:=[_,_]) (Now.below hS h1) 3 (madeCells #[(.int .i64 0)] T.order.length) T.order.length (size_madeCells _ _) n1
      go_simp
      refine hK _ _ (fun _ hB => (Below.refl _ _).alloc hB _) ?_
      clear hK K h1
      try simp only [Act.put,sqA,sqB,sqC]
      generalize w1.alloc (.cells (madeCells #[(.int .i64 0)] T.order.length) 3) = wc2 at hS ⊢
      generalize w1.heap.size = kb1 at hS ⊢
      clear w1
      apply wpAnyE_take (KeepB.grow wb.heap.size) 12
      · kernel_rfl
      · intro _ _ d _ _ h;cases d <;> exact h
      · exact rfl
      · kernel_rfl
      · intro w1 h1
        go_simp
        exact ⟨rfl,sqN _⟩
      try simp only [Act.put,sqA,sqB,sqC]
      refine wpAnyE_fork [7] (by kernel_rfl) (by simp) ?_
      refine sqM ?_
      · refine ⟨_,rfl,?_⟩
        intro w1 h1 K hK
        replace hS := Now.builtRow (pre:=[_,_,_]) (Now.below hS h1) 3 (madeCells #[(.int .i64 0)] T.lens.length) T.lens.length (size_madeCells _ _) n2
        go_simp
        refine hK _ _ (fun _ hB => (Below.refl _ _).alloc hB _) ?_
        clear hK K h1
        try simp only [Act.put,sqA,sqB,sqC]
        generalize w1.alloc (.cells (madeCells #[(.int .i64 0)] T.lens.length) 3) = wc3 at hS ⊢
        generalize w1.heap.size = kb2 at hS ⊢
        clear w1
        apply wpAnyE_take (KeepB.grow wb.heap.size) 13
        · kernel_rfl
        · intro _ _ d _ _ h;cases d <;> exact h
        · exact rfl
        · kernel_rfl
        · intro w1 h1
          go_simp
          exact ⟨rfl,sqN _⟩
        try simp only [Act.put,sqA,sqB,sqC]
        apply wpAnyE_take (KeepB.grow wb.heap.size) 14
        · kernel_rfl
        · intro _ _ d _ _ h;cases d <;> exact h
        · exact rfl
        · kernel_rfl
        · intro w1 h1
          go_simp
          exact ⟨rfl,sqN _⟩
        try simp only [Act.put,sqA,sqB,sqC]
        refine wpAnyE_end (by kernel_rfl) fun w5 h5 => ?_
        replace hS := Now.below hS h5
        go_wp2_with fail
        go_meet
        exact ⟨_,_,_,rfl,rfl,rfl,hS⟩
    · refine ⟨_,rfl,?_⟩
      intro w1 h1 K hK
      replace hS := Now.builtRow (pre:=[_,_,_]) (Now.below hS h1) 3 (madeCells #[(.int .i64 0)] T.lens.length) T.lens.length (size_madeCells _ _) n2
      go_simp
      refine hK _ _ (fun _ hB => (Below.refl _ _).alloc hB _) ?_
      clear hK K h1
      try simp only [Act.put,sqA,sqB,sqC]
      generalize w1.alloc (.cells (madeCells #[(.int .i64 0)] T.lens.length) 3) = wc2 at hS ⊢
      generalize w1.heap.size = kb2 at hS ⊢
      clear w1
      refine wpAnyE_fork [3] (by kernel_rfl) (by simp) ?_
      refine sqM ?_
      · refine ⟨_,rfl,?_⟩
        intro w1 h1 K hK
        replace hS := Now.builtRow (pre:=[_,_]) (Now.below hS h1) 3 (madeCells #[(.int .i64 0)] T.order.length) T.order.length (size_madeCells _ _) n1
        go_simp
        refine hK _ _ (fun _ hB => (Below.refl _ _).alloc hB _) ?_
        clear hK K h1
        try simp only [Act.put,sqA,sqB,sqC]
        generalize w1.alloc (.cells (madeCells #[(.int .i64 0)] T.order.length) 3) = wc3 at hS ⊢
        generalize w1.heap.size = kb1 at hS ⊢
        clear w1
        apply wpAnyE_take (KeepB.grow wb.heap.size) 12
        · kernel_rfl
        · intro _ _ d _ _ h;cases d <;> exact h
        · exact rfl
        · kernel_rfl
        · intro w1 h1
          go_simp
          exact ⟨rfl,sqN _⟩
        try simp only [Act.put,sqA,sqB,sqC]
        apply wpAnyE_take (KeepB.grow wb.heap.size) 13
        · kernel_rfl
        · intro _ _ d _ _ h;cases d <;> exact h
        · exact rfl
        · kernel_rfl
        · intro w1 h1
          go_simp
          exact ⟨rfl,sqN _⟩
        try simp only [Act.put,sqA,sqB,sqC]
        apply wpAnyE_take (KeepB.grow wb.heap.size) 14
        · kernel_rfl
        · intro _ _ d _ _ h;cases d <;> exact h
        · exact rfl
        · kernel_rfl
        · intro w1 h1
          go_simp
          exact ⟨rfl,sqN _⟩
        try simp only [Act.put,sqA,sqB,sqC]
        refine wpAnyE_end (by kernel_rfl) fun w5 h5 => ?_
        replace hS := Now.below hS h5
        go_wp2_with fail
        go_meet
        exact ⟨_,_,_,rfl,rfl,rfl,hS⟩
  -- END
end Go.Proofs.YtidacaihmjdmkaaGreat
namespace Go.Proofs.YtidacaihmjdmkaaGreat
open Go.RowKit
attribute [local go_sem high] run_mx run_mn
def Tab.count (T : Tab) : Tab := { T with lens := T.lens.set (T.lens.length - 1) (T.last + 1) }
abbrev zeroTab : Array Value := #[.int .i64 0, .int .i64 0, .slice none 0 0, .slice none 0 0, .slice none 0 0]
theorem Tab.Ok.short {T : Tab} (h : T.Ok) : T.Short := ⟨by have := h.many;omega,by have := h.many;have := h.len;omega,by have := h.many;have := h.fst;omega⟩
def GotTab (w w' : World) (T : Tab) (e : Ending) : Prop := ∃ AO cO AL cL AF cF,e = .returned (.tuple #[.agg (tabCells T AO cO AL cL AF cF), .int .i64 0]) ∧ Sep w w' (tabParts T AO cO AL cL AF cF)
set_option maxHeartbeats 8000000 in
theorem Count_ok (T : Tab) (hT : T.Ok) (AO : Option Addr) (cO : Nat) (AL : Option Addr) (cL : Nat) (AF : Option Addr) (cF : Nat) (w : World) (h : TabIn w w.heap.size T AO AL AF) (hl : T.last < T.slots) :
    Calls Tryz.prog 101 #[.agg (tabCells T AO cO AL cL AF cF)] w fun e w' => GotTab w w' T.count e := by
  have h1 := h.alloc (Nat.le_refl _) (.cells (tabCells T AO cO AL cL AF cF) 64)
  have hp := hT.pos
  have hmn := hT.many
  obtain ⟨hl1,hl2,hl3⟩ := hT.last
  have hlen := hT.len
  rw [hlen] at hl1
  obtain ⟨ad,rfl,hadB,hc⟩ := read_cell (k := T.order.length - 1) (u := .int .i64 T.last) h1.l (by omega) (by rw [List.getElem?_map,hl1];rfl)
  have hS : Sep w ((w.alloc (.cells (tabCells T AO cO (some ad) cL AF cF) 64)).alloc (.cells zeroTab 64)) [Thing.cells (w.heap.size + 1) 64 zeroTab,Thing.cells w.heap.size 64 (tabCells T AO cO (some ad) cL AF cF)] := by
    have := Now.pushCells (Now.pushCells (Sep.start w) 64 (tabCells T AO cO (some ad) cL AF cF)) 64 zeroTab
    simpa using this
  obtain ⟨m,hm⟩ : ∃ m : Nat,T.order.length - 1 = m := ⟨_,rfl⟩
  have hlast := fun v => last_any T hT AO cO (some ad) cL AF cF v
  rw [hm] at hc hlast
  have hm1 : (m : Int) < (T.lens.length : Int) := by omega
  have hc2 : ((w.alloc (.cells (tabCells T AO cO (some ad) cL AF cF) 64)).alloc (.cells zeroTab 64)).cell? (ad.add m) = some (.int .i64 T.last) := (World.cell?_alloc_lt _ _ _ (by rw [block_of_add];simp;omega)).trans hc
  have hge : (decide (T.slots ≤ T.last)) = false := by simpa using hl
  have hown := fun v (hv : TabIn v v.heap.size T AO (some ad) AF) => own_any T hT.short AO cO (some ad) cL AF cF v hv
  have hTI := fun v (hv : Below w.heap.size w v) => (h.below hv).more hv.size
  have hsl := hT.slots
  have HLEN := Lib.hid hlen
  have hlm : T.lens[m]? = some T.last := hm ▸ hl1
  have HLM := Lib.hid hlm
  have HMM := Lib.hid hm
  clear hlm
  clear hlen h1 h hm hl1 hc
  go_enter Tryz.func101,Tryz.ntmps101
  go_wp2_with fail
  generalize (w.alloc (.cells (tabCells T AO cO (some ad) cL AF cF) 64)).alloc (.cells zeroTab 64) = wb at hS hc2 ⊢
  have hb := Now.blk (pre:=[_]) hS
  have hcell : ∀ w1,Newer wb.drew w1 → w1.cell? ⟨w.heap.size,0,none⟩ = some (.int .i64 T.segs) ∧ w1.cell? ⟨w.heap.size,1,none⟩ = some (.int .i64 T.slots) ∧ w1.cell? ⟨w.heap.size,2,none⟩ = some (.slice AO T.order.length cO) ∧ w1.cell? ⟨w.heap.size,3,none⟩ = some (.slice (some ad) T.lens.length cL) ∧ w1.cell? ⟨w.heap.size,4,none⟩ = some (.slice AF T.firsts.length cF) ∧ w1.cell? (ad.add m) = some (.int .i64 T.last) := fun w1 hw => by
    have hb1 := hb.below hw.undrew hb.lt
    exact ⟨hb1.cell 0,hb1.cell 1,hb1.cell 2,hb1.cell 3,hb1.cell 4,(hw.undrew.cell (lt_of_cell hc2)).trans hc2⟩
  refine wp_region_ord Newer.grow [(0,true),(1,true),(2,true),(3,true),(4,true),(5,true),(6,true),(7,true),(8,true)] [] (by kernel_rfl) (by kernel_rfl) rfl (by kernel_rfl) (by intro _ _ d _ _ h;cases d <;> exact h) ?_
  iterate 9
    (apply wpOrd_take
     · exact rfl
     · intro w1 h1
       (obtain ⟨c0,c1,c2,c3,c4,c5⟩ := hcell w1 h1)
       go_simp
       first
         | with_reducible exact ⟨rfl,sqN _⟩
         | with_reducible exact hlast _
     simp only [Act.put,sqA,sqB,sqC])
  refine wpOrd_done fun w6 h6 => ?_
  have hS6 := Now.below hS.drew h6
  obtain ⟨c0,c1,c2,c3,c4,c5⟩ := hcell w6 h6
  clear hcell hS hb hlast hge
  go_wp2_with (first
    | (go_at_call 151;(with_reducible refine (hown _ (hTI _ (Sep.base hS6))).mono ?_);rintro e w7 ⟨A1,k1,A2,k2,A3,k3,rfl,hO⟩;have hS7 := Now.pushAll hS6 hO;clear hown hTI hS6 hO c0 c1 c2 c3 c4 c5))
  have hS8 := Now.pushCells hS7 64 (tabCells T A1 k1 A2 k2 A3 k3)
  obtain ⟨y,hy⟩ : ∃ y,w7.heap.size = y := ⟨_,rfl⟩
  rw [hy] at hS8 ⊢
  generalize w7.alloc (.cells (tabCells T A1 k1 A2 k2 A3 k3) 64) = w8 at hS8 ⊢
  clear hy hS7
  obtain ⟨r,kr,cur,e2,_⟩ := row_form (Now.row (pre:=[_,_]) hS8) (by omega)
  cases e2
  have hrow := Now.row (pre:=[_,_]) hS8
  have hml : m < T.lens.length := by omega
  have hrc := row_at hrow hml
  rw [List.getElem?_map,HLM.out] at hrc
  have hyb := Now.blk (pre:=[]) hS8
  have hlast2 := fun v => last_any T hT A1 k1 (some ⟨r,0,none⟩) k2 A3 k3 v
  rw [HMM.out] at hlast2
  have hcell : ∀ w1,Newer w8.drew w1 → w1.cell? ⟨y,0,none⟩ = some (.int .i64 T.segs) ∧ w1.cell? ⟨y,1,none⟩ = some (.int .i64 T.slots) ∧ w1.cell? ⟨y,2,none⟩ = some (.slice A1 T.order.length k1) ∧ w1.cell? ⟨y,3,none⟩ = some (.slice (some ⟨r,0,none⟩) T.lens.length k2) ∧ w1.cell? ⟨y,4,none⟩ = some (.slice A3 T.firsts.length k3) ∧ w1.cell? ⟨r,m,none⟩ = some (.int .i64 T.last) ∧ w1.frozen? ⟨r,m,none⟩ = false := fun w1 hw => by
    have hb1 := hyb.below hw.undrew hyb.lt
    exact ⟨hb1.cell 0,hb1.cell 1,hb1.cell 2,hb1.cell 3,hb1.cell 4,(hw.undrew.cell (lt_of_cell (a := ⟨r,m,none⟩) hrc.1)).trans hrc.1,(hw.undrew.frozen (lt_of_cell (a := ⟨r,m,none⟩) hrc.1)).trans hrc.2⟩
  have e1 : IntKind.i64.wrap (T.last + 1) = T.last + 1 := IntWalk.i64_in _ (by omega)
  have hml1 : (m : Int) < (T.lens.length : Int) := by omega
  clear hyb hrow hrc
  refine wp_region_ord Newer.grow [(0,true),(1,true),(2,true),(3,true),(4,true),(5,true),(6,true),(7,true),(8,false)] [8] (by kernel_rfl) (by kernel_rfl) rfl (by kernel_rfl) (by intro _ _ d _ _ h;cases d <;> exact h) ?_
  iterate 8
    (apply wpOrd_take
     · exact rfl
     · intro w1 h1
       (obtain ⟨c0,c1,c2,c3,c4,c5,c6⟩ := hcell w1 h1)
       go_simp
       first
         | with_reducible exact ⟨rfl,sqN _⟩
         | with_reducible exact hlast2 _
     simp only [Act.put,sqA,sqB,sqC])
  refine wpOrd_last rfl (by decide) ?_
  intro v6 h7 K hK
  obtain ⟨c0,c1,c2,c3,c4,c5,c6⟩ := hcell v6 h7
  go_simp
  refine hK _ _ ?_
  have hS9 := Now.rowSet (pre:=[_,_]) (Now.below hS8.drew h7) hml (.int .i64 (T.last + 1))
  clear hK K hcell hS8 c0 c1 c2 c3 c4 c5 c6
  generalize v6.setCell ⟨r,m,none⟩ (.int .i64 (T.last + 1)) = v7 at hS9 ⊢
  refine wpOrd_done fun v8 h8 => ?_
  have hS10 := Now.below hS9 h8
  have hyb := Now.blk (pre:=[]) hS10
  have c0 : v8.cell? ⟨y,0,none⟩ = some (.int .i64 T.segs) := hyb.cell 0
  have c1 : v8.cell? ⟨y,1,none⟩ = some (.int .i64 T.slots) := hyb.cell 1
  have c2 : v8.cell? ⟨y,2,none⟩ = some (.slice A1 T.order.length k1) := hyb.cell 2
  have c3 : v8.cell? ⟨y,3,none⟩ = some (.slice (some ⟨r,0,none⟩) T.lens.length k2) := hyb.cell 3
  have c4 : v8.cell? ⟨y,4,none⟩ = some (.slice A3 T.firsts.length k3) := hyb.cell 4
  have hr := Now.blk (pre:=[_,_,_,_]) hS10
  have f := fun k => hr.frozen k
  have r0 : v8.cell? ⟨w.heap.size + 1,0,none⟩ = some (.int .i64 0) := hr.cell 0
  have r1 : v8.cell? ⟨w.heap.size + 1,1,none⟩ = some (.int .i64 0) := hr.cell 1
  have r2 : v8.cell? ⟨w.heap.size + 1,2,none⟩ = some (.slice none 0 0) := hr.cell 2
  have r3 : v8.cell? ⟨w.heap.size + 1,3,none⟩ = some (.slice none 0 0) := hr.cell 3
  have r4 : v8.cell? ⟨w.heap.size + 1,4,none⟩ = some (.slice none 0 0) := hr.cell 4
  have hS11 := Lib.hid (Now.set5 (pre:=[_,_,_,_]) hS10 (.int .i64 T.segs) (.int .i64 T.slots) (.slice A1 T.order.length k1) (.slice (some ⟨r,0,none⟩) T.lens.length k2) (.slice A3 T.firsts.length k3))
  clear hS9 hS10 hyb hr
  go_wp2_with fail
  have hlc : T.count.lens.length = T.lens.length := List.length_set ..
  have hfin : Sep w (((((v8.setCell ⟨w.heap.size + 1,0,none⟩ (.int .i64 T.segs)).setCell ⟨w.heap.size + 1,1,none⟩ (.int .i64 T.slots)).setCell ⟨w.heap.size + 1,2,none⟩ (.slice A1 T.order.length k1)).setCell ⟨w.heap.size + 1,3,none⟩ (.slice (some ⟨r,0,none⟩) T.lens.length k2)).setCell ⟨w.heap.size + 1,4,none⟩ (.slice A3 T.firsts.length k3)) (tabParts T.count A1 k1 (some ⟨r,0,none⟩) k2 A3 k3) := by
    have h12 := Now.drop (pre:=[_,_,_]) (Now.drop (pre:=[_,_,_]) (Now.drop (pre:=[]) hS11.out))
    show Sep w _ [_,Thing.row _ 1 (.slice _ T.count.lens.length _) T.count.lens.length (ints T.count.lens),_]
    rw [hlc,show ints T.count.lens = (ints T.lens).set m (.int .i64 (T.last + 1)) by
      show ints (T.lens.set (T.lens.length - 1) _) = _
      rw [HLEN.out,HMM.out];exact List.map_set ..]
    exact h12
  refine bodyPost_ret (v := .tuple #[.agg (tabCells T.count A1 k1 (some ⟨r,0,none⟩) k2 A3 k3), .int .i64 0]) ?_ rfl ⟨_,_,_,_,_,_,rfl,hfin⟩
  unfold tabCells
  rw [hlc]
  exact results_row_tmp rfl _ _ _ _ _ _ _ (by simp) (by simp) (Now.blk (pre:=[_,_,_,_]) hS11.out) Tryz.underlying64 rfl (by kernel_rfl)
end Go.Proofs.YtidacaihmjdmkaaGreat
namespace Go.Proofs.YtidacaihmjdmkaaGreat
open Go.RowKit
attribute [local go_sem high] run_mx run_mn
def secOf (slots seg slot : Int) : Int := 2 + seg * (slots + 1) + slot
set_option maxHeartbeats 2000000 in
theorem Sector_ok (slots seg slot : Int) (h1 : 1 ≤ slots ∧ slots ≤ 30) (h2 : 0 ≤ seg ∧ seg < 16) (h3 : 0 ≤ slot ∧ slot ≤ slots) (w : World) :
    Calls Tryz.prog 110 #[.int .i64 slots, .agg #[.int .i64 seg, .int .i64 slot]] w fun e w' => e = .returned (.int .i64 (secOf slots seg slot)) ∧ Newer w w' := by
  have x1 : 0 ≤ seg * (slots + 1) := Int.mul_nonneg (by omega) (by omega)
  have x2 : seg * (slots + 1) ≤ 16 * 31 := Int.mul_le_mul (by omega) (by omega) (by omega) (by omega)
  obtain ⟨a1,a2⟩ := h1
  obtain ⟨b1,b2⟩ := h2
  obtain ⟨d1,d2⟩ := h3
  have n1 : ¬ slots < 1 := by omega
  have n2 : ¬ 30 < slots := by omega
  have n3 : ¬ seg < 0 := by omega
  have n4 : ¬ 16 ≤ seg := by omega
  have n5 : ¬ slot < 0 := by omega
  have n6 : ¬ slots < slot := by omega
  unfold secOf
  go_enter Tryz.func110,Tryz.ntmps110
  go_wp2
  go_ret
  exact ⟨rfl,(Newer.refl w).alloc _⟩
theorem may_yes (segs slots : Int) (h1 : 4 ≤ segs ∧ segs ≤ 16) (h2 : 1 ≤ slots ∧ slots ≤ 30) (w : World) :
    Calls Tryz.prog 146 #[.int .i64 segs, .int .i64 slots] w fun e w' => e = .returned (.bool true) ∧ w = w' := by
  obtain ⟨a1,a2⟩ := h1
  obtain ⟨b1,b2⟩ := h2
  go_enter Tryz.func146,Tryz.ntmps146
  go_wp2
  go_ret
  exact ⟨rfl,rfl⟩
def newTab (segs slots first : Int) : Tab := ⟨segs,slots,[0],[0],[first]⟩
set_option maxHeartbeats 2000000 in
theorem New_tab (segs slots first : Int) (h1 : 4 ≤ segs ∧ segs ≤ 16) (h2 : 1 ≤ slots ∧ slots ≤ 30) (w : World) :
    Calls Tryz.prog 91 #[.int .i64 segs, .int .i64 slots, .int .u64 first] w fun e w' => GotTab w w' (newTab segs slots first) e := by
  have hm := fun v => may_yes segs slots h1 h2 v
  have hS0 := Now.pushRow (Now.pushRow (Now.pushRow (Now.pushCells (Sep.start w) 64 (tabCells (newTab segs slots first) (some ⟨w.heap.size + 1,0,none⟩) 1 (some ⟨w.heap.size + 1 + 1,0,none⟩) 1 (some ⟨w.heap.size + 1 + 1 + 1,0,none⟩) 1)) 3 #[.int .i64 0] (by simp [maxLen])) 3 #[.int .i64 0] (by simp [maxLen])) 43 #[.int .u64 first] (by simp [maxLen])
  simp only [World.size_alloc,List.size_toArray,List.length_cons,List.length_nil,Nat.zero_add] at hS0
  have hS1 := Now.front (pre:=[_,_]) (post := [_]) (Now.swap hS0)
  have hS2 := Now.drop (pre:=[_,_,_]) hS0
  have hS3 : Sep w _ (tabParts (newTab segs slots first) (some ⟨w.heap.size + 1,0,none⟩) 1 (some ⟨w.heap.size + 1 + 1,0,none⟩) 1 (some ⟨w.heap.size + 1 + 1 + 1,0,none⟩) 1) := Now.front (pre:=[_,_]) (post := []) (Now.swap hS2)
  have HS := Lib.hid hS3
  have HB := Lib.hid (Now.blk (pre:=[_,_,_]) hS0)
  clear hS0 hS1 hS2 hS3
  go_enter Tryz.func91,Tryz.ntmps91
  go_wp2_with (go_at_call 146;(with_reducible refine (hm _).mono ?_);rintro e v ⟨rfl,rfl⟩)
  refine bodyPost_ret (v := .tuple #[.agg (tabCells (newTab segs slots first) (some ⟨w.heap.size + 1,0,none⟩) 1 (some ⟨w.heap.size + 1 + 1,0,none⟩) 1 (some ⟨w.heap.size + 1 + 1 + 1,0,none⟩) 1), .int .i64 0]) ?_ rfl ⟨_,_,_,_,_,_,rfl,HS.out⟩
  exact results_row_tmp rfl _ _ _ _ _ _ _ (by simp) (by simp) HB.out Tryz.underlying64 rfl (by kernel_rfl)
end Go.Proofs.YtidacaihmjdmkaaGreat
namespace Go.Proofs.YtidacaihmjdmkaaGreat
open Go.RowKit
attribute [local go_sem high] run_mx run_mn
def Tab.drop (T : Tab) (i : Nat) : Tab := { T with order := T.order.eraseIdx i,lens := T.lens.eraseIdx i,firsts := T.firsts.eraseIdx i }
theorem Drop_bad (T : Tab) (hT : T.Ok) (AO : Option Addr) (cO : Nat) (AL : Option Addr) (cL : Nat) (AF : Option Addr) (cF : Nat) (s : Int) (w : World) (h : TabIn w w.heap.size T AO AL AF) (hl : idx T.order s < 0 ∨ idx T.order s = (T.order.length - 1 : Nat)) :
    Calls Tryz.prog 117 #[.agg (tabCells T AO cO AL cL AF cF), .int .i64 s] w fun e w' => e = .returned (.tuple #[.agg zeroTab, .int .i64 1]) ∧ Newer w w' := by
  have h1 := (h.alloc (Nat.le_refl _) (.cells (tabCells T AO cO AL cL AF cF) 64)).alloc (by simp) (.cells zeroTab 64)
  have hi := Index_any AO T.order.length cO w.heap.size T.order s _ h1.o (by have := hT.many;omega)
  have hlast := fun v => last_any T hT AO cO AL cL AF cF v
  have hS0 := Lib.hid (Now.pushCells (Now.pushCells (Sep.start w) 64 (tabCells T AO cO AL cL AF cF)) 64 zeroTab)
  have hlt := idx_lt T.order s
  rcases hl with hl | hl
  · have n1 : idx T.order s ≤ -1 := by omega
    generalize idx T.order s = y at *
    clear h1 h hT
    go_enter Tryz.func117,Tryz.ntmps117
    go_wp2_with (go_at_call 150;(with_reducible refine hi.mono ?_);rintro e w' ⟨rfl,rfl⟩)
    refine bodyPost_ret (v := .tuple #[.agg zeroTab, .int .i64 1]) ?_ rfl ⟨rfl,Sep.base hS0.out⟩
    exact results_row_tmp rfl _ _ _ _ _ _ _ (by simp) (by simp) (Now.blk (pre:=[]) hS0.out) Tryz.underlying64 rfl (by kernel_rfl)
  · obtain ⟨m,hm⟩ : ∃ m : Nat,T.order.length - 1 = m := ⟨_,rfl⟩
    rw [hm] at hlast hl
    rw [hl] at hi
    clear h1 h hT hm hl hlt
    go_enter Tryz.func117,Tryz.ntmps117
    go_wp2_with (first
      | (go_at_call 150;(with_reducible refine hi.mono ?_);rintro e w' ⟨rfl,rfl⟩)
      | (go_at_call 149;(with_reducible refine (hlast _).mono ?_);rintro e w1 ⟨rfl,hB⟩;have hS1 := Now.below hS0.out hB;have hr := Now.blk (pre:=[]) hS1;simp only [World.size_alloc] at hr;have f := fun k => hr.frozen k;have r0 : _ = some (Value.int .i64 0) := hr.cell 0;have r1 : _ = some (Value.int .i64 0) := hr.cell 1;have r2 : _ = some (Value.slice none 0 0) := hr.cell 2;have r3 : _ = some (Value.slice none 0 0) := hr.cell 3;have r4 : _ = some (Value.slice none 0 0) := hr.cell 4;simp only [World.size_alloc] at hS1;have hS2 := Lib.hid (Now.set5 (pre:=[]) hS1 (.int .i64 0) (.int .i64 0) (.slice none 0 0) (.slice none 0 0) (.slice none 0 0));clear hr hS1))
    refine bodyPost_ret (v := .tuple #[.agg zeroTab, .int .i64 1]) ?_ rfl ⟨rfl,Sep.base hS2.out⟩
    exact results_row_tmp rfl _ _ _ _ _ _ _ (by simp) (by simp) (Now.blk (pre:=[]) hS2.out) Tryz.underlying64 rfl (by kernel_rfl)
set_option maxHeartbeats 8000000 in
theorem Drop_ok (T : Tab) (hT : T.Ok) (AO : Option Addr) (cO : Nat) (AL : Option Addr) (cL : Nat) (AF : Option Addr) (cF : Nat) (s : Int) (w : World) (h : TabIn w w.heap.size T AO AL AF) (i : Nat) (hl : idx T.order s = i) (hi1 : i + 1 < T.order.length) :
    Calls Tryz.prog 117 #[.agg (tabCells T AO cO AL cL AF cF), .int .i64 s] w fun e w' => GotTab w w' (T.drop i) e := by
  have h1 := (h.alloc (Nat.le_refl _) (.cells (tabCells T AO cO AL cL AF cF) 64)).alloc (by simp) (.cells zeroTab 64)
  have hi := Index_any AO T.order.length cO w.heap.size T.order s _ h1.o (by have := hT.many;omega)
  have hmn := hT.many
  have hlen := hT.len
  have hfst := hT.fst
  have hlast := fun v => last_any T hT AO cO AL cL AF cF v
  have hown := fun v (hv : TabIn v v.heap.size T AO AL AF) => own_any T hT.short AO cO AL cL AF cF v hv
  have hTI := fun v (hv : Below w.heap.size w v) => (h.below hv).more hv.size
  have hS0 := Now.pushCells (Now.pushCells (Sep.start w) 64 (tabCells T AO cO AL cL AF cF)) 64 zeroTab
  simp only [World.size_alloc] at hS0
  obtain ⟨m,hm⟩ : ∃ m : Nat,T.order.length - 1 = m := ⟨_,rfl⟩
  rw [hm] at hlast
  rw [hl] at hi
  have him : (i : Int) < (m : Int) := by omega
  have him2 : ((i : Int) == (m : Int)) = false := beq_eq_false_iff_ne.2 (by omega)
  have him3 : (i == m) = false := beq_eq_false_iff_ne.2 (by omega)
  have him4 : decide (i = m) = false := by simp;omega
  have HLEN := Lib.hid hlen
  have HFST := Lib.hid hfst
  clear h1 h hm hl hlen hfst
  go_enter Tryz.func117,Tryz.ntmps117
  go_wp2_with (first
    | (go_at_call 150;(with_reducible refine hi.mono ?_);rintro e w' ⟨rfl,rfl⟩)
    | (go_at_call 149;(with_reducible refine (hlast _).mono ?_);rintro e w1 ⟨rfl,hB⟩;have hS1 := Now.below hS0 hB;have hb := Now.blk (pre:=[_]) hS1;have c0 : _ = some (Value.int .i64 T.segs) := hb.cell 0;have c1 : _ = some (Value.int .i64 T.slots) := hb.cell 1;have c2 : _ = some (Value.slice AO T.order.length cO) := hb.cell 2;have c3 : _ = some (Value.slice AL T.lens.length cL) := hb.cell 3;have c4 : _ = some (Value.slice AF T.firsts.length cF) := hb.cell 4;clear hS0 hB hb hlast)
    | (go_at_call 151;(with_reducible refine (hown _ (hTI _ (Sep.base hS1))).mono ?_);rintro e w7 ⟨A1,k1,A2,k2,A3,k3,rfl,hO⟩;have hS7 := Now.pushAll hS1 hO;clear hown hTI hS1 hO c0 c1 c2 c3 c4))
  have hS8 := Now.pushCells hS7 64 (tabCells T A1 k1 A2 k2 A3 k3)
  obtain ⟨y,hy⟩ : ∃ y,w7.heap.size = y := ⟨_,rfl⟩
  rw [hy] at hS8 ⊢
  generalize w7.alloc (.cells (tabCells T A1 k1 A2 k2 A3 k3) 64) = w8 at hS8 ⊢
  clear hy hS7
  have hSl := HLEN.out
  have hSf := HFST.out
  obtain ⟨r1,q1,_,e1,_⟩ := row_form (Now.row (pre:=[_]) hS8) (by omega)
  cases e1
  obtain ⟨r2,q2,_,e1,_⟩ := row_form (Now.row (pre:=[_,_]) hS8) (by omega)
  cases e1
  obtain ⟨r3,q3,_,e1,_⟩ := row_form (Now.row (pre:=[_,_,_]) hS8) (by omega)
  cases e1
  clear hSl hSf
  have hyb := Now.blk (pre:=[]) hS8
  have HB : y < w8.drew.heap.size := hyb.lt
  have hcell : ∀ w1,KeepG y w8.drew w1 → w1.cell? ⟨y,2,none⟩ = some (.slice (some ⟨r1,0,none⟩) T.order.length k1) ∧ w1.cell? ⟨y,3,none⟩ = some (.slice (some ⟨r2,0,none⟩) T.lens.length k2) ∧ w1.cell? ⟨y,4,none⟩ = some (.slice (some ⟨r3,0,none⟩) T.firsts.length k3) := fun w1 hw => by
    have hb1 := KeepG.blk (w := w8.drew) hw hyb
    exact ⟨hb1.cell 2,hb1.cell 3,hb1.cell 4⟩
  have x1 : IntKind.i64.wrap ((i : Int) + 1) = (i : Int) + 1 := IntWalk.i64_in _ (by omega)
  replace hS8 := hS8.drew
  refine wp_region_takes (KeepG.grow y) [19,21,23] [(0,false),(1,false),(2,true),(3,true),(4,true),(6,false),(7,false),(8,true),(9,true),(10,true),(12,false),(13,false),(14,true),(15,true),(16,true)] 9 (by kernel_rfl) (by kernel_rfl) rfl (by kernel_rfl) (by intro _ _ d _ _ h;cases d <;> exact h) ?_
  iterate 2
    (apply wpTakes_take
     · exact rfl
     · intro w1 hR1;have h1 := hR1 HB
       (obtain ⟨c2,c3,c4⟩ := hcell w1 hR1)
       go_simp
       first
         | with_reducible exact ⟨rfl,sqN _⟩
     simp only [Act.put,sqA,sqB,sqC])
  iterate 3
    (apply wpTakes_pure
     · exact rfl
     · intro w1
       skip
       go_simp
       first
         | with_reducible exact ⟨rfl,sqN _⟩
     simp only [Act.put,sqA,sqB,sqC])
  iterate 2
    (apply wpTakes_take
     · exact rfl
     · intro w1 hR1;have h1 := hR1 HB
       (obtain ⟨c2,c3,c4⟩ := hcell w1 hR1)
       go_simp
       first
         | with_reducible exact ⟨rfl,sqN _⟩
     simp only [Act.put,sqA,sqB,sqC])
  iterate 3
    (apply wpTakes_pure
     · exact rfl
     · intro w1
       skip
       go_simp
       first
         | with_reducible exact ⟨rfl,sqN _⟩
     simp only [Act.put,sqA,sqB,sqC])
  iterate 2
    (apply wpTakes_take
     · exact rfl
     · intro w1 hR1;have h1 := hR1 HB
       (obtain ⟨c2,c3,c4⟩ := hcell w1 hR1)
       go_simp
       first
         | with_reducible exact ⟨rfl,sqN _⟩
     simp only [Act.put,sqA,sqB,sqC])
  iterate 3
    (apply wpTakes_pure
     · exact rfl
     · intro w1
       skip
       go_simp
       first
         | with_reducible exact ⟨rfl,sqN _⟩
     simp only [Act.put,sqA,sqB,sqC])
  refine wpTakes_done ?_
  clear hcell
  generalize w8.drew = wc at hS8 HB ⊢
  refine wpAnyE_fork [5] (by kernel_rfl) (by simp) ?_
  refine sqM ?_
  refine ⟨_,rfl,?_⟩
  intro w1 h1 K hK
  replace hS8 := Now.below hS8 h1
  go_simp
  go_at_call 156
  refine (DeleteI_in (pre:=[_]) r1 T.order.length k1 i T.order hS8 (by omega) (by omega)).mono ?_
  rintro e w2 ⟨rfl,hz,hS9⟩
  refine hK _ _ (fun _ _ => ⟨(Now.blk (pre:=[]) hS9).trans (Now.blk (pre:=[]) hS8).symm,hz⟩) ?_
  clear hK K hS8 hz h1 HB
  apply wpAnyE_pure (KeepG.grow y) 18
  · kernel_rfl
  · intro _ _ d _ _ h;cases d <;> exact h
  · exact rfl
  · kernel_rfl
  · intro w1
    go_simp
    exact ⟨rfl,sqN _⟩
  try simp only [Act.put,sqA,sqB,sqC]
  refine wpAnyE_fork [11] (by kernel_rfl) (by simp) ?_
  refine sqM ?_
  refine ⟨_,rfl,?_⟩
  intro w1 h1 K hK
  replace hS9 := Now.below hS9 h1
  go_simp
  go_at_call 156
  refine (DeleteI_in (pre:=[_,_]) r2 T.lens.length k2 i T.lens hS9 (by have := HLEN.out;omega) (by have := HLEN.out;omega)).mono ?_
  rintro e w3 ⟨rfl,hz,hS10⟩
  refine hK _ _ (fun _ _ => ⟨(Now.blk (pre:=[]) hS10).trans (Now.blk (pre:=[]) hS9).symm,hz⟩) ?_
  clear hK K hS9 hz h1
  refine wpAnyE_fork [17] (by kernel_rfl) (by simp) ?_
  refine sqM ?_
  refine ⟨_,rfl,?_⟩
  intro w1 h1 K hK
  replace hS10 := Now.below hS10 h1
  go_simp
  go_at_call 157
  refine (DeleteU_in (pre:=[_,_,_]) r3 T.firsts.length k3 i T.firsts hS10 (by have := HFST.out;omega) (by have := HFST.out;omega)).mono ?_
  rintro e w4 ⟨rfl,hz,hS11⟩
  refine hK _ _ (fun _ _ => ⟨(Now.blk (pre:=[]) hS11).trans (Now.blk (pre:=[]) hS10).symm,hz⟩) ?_
  clear hK K hS10 hz h1
  refine wpAnyE_fork [19] (by kernel_rfl) (by simp) ?_
  refine sqM ?_
  refine ⟨_,rfl,?_⟩
  intro w1 h1 K hK
  replace hS11 := Now.below hS11 h1
  have hyb := Now.blk (pre:=[]) hS11
  have c2 : _ = some (Value.slice (some ⟨r1,0,none⟩) T.order.length k1) := hyb.cell 2
  have c3 : _ = some (Value.slice (some ⟨r2,0,none⟩) T.lens.length k2) := hyb.cell 3
  have c4 : _ = some (Value.slice (some ⟨r3,0,none⟩) T.firsts.length k3) := hyb.cell 4
  have f2 := hyb.frozen 2
  go_simp
  refine hK _ _ (fun hn => absurd (by decide) hn) ?_
  replace hS11 := Now.set_ (pre:=[]) hS11 2 (.slice (some ⟨r1,0,none⟩) (T.order.length - 1) k1)
  clear hK K hyb c2 c3 c4 f2 h1
  generalize w1.setCell ⟨y,2,none⟩ (.slice (some ⟨r1,0,none⟩) (T.order.length - 1) k1) = v19 at hS11 ⊢
  clear w1
  apply wpAnyE_pure (KeepG.grow y) 20
  · kernel_rfl
  · intro _ _ d _ _ h;cases d <;> exact h
  · exact rfl
  · kernel_rfl
  · intro w1
    go_simp
    exact ⟨rfl,sqN _⟩
  try simp only [Act.put,sqA,sqB,sqC]
  refine wpAnyE_fork [21] (by kernel_rfl) (by simp) ?_
  refine sqM ?_
  refine ⟨_,rfl,?_⟩
  intro w1 h1 K hK
  replace hS11 := Now.below hS11 h1
  have hyb := Now.blk (pre:=[]) hS11
  have c2 : _ = some (Value.slice (some ⟨r1,0,none⟩) (T.order.length - 1) k1) := hyb.cell 2
  have c3 : _ = some (Value.slice (some ⟨r2,0,none⟩) T.lens.length k2) := hyb.cell 3
  have c4 : _ = some (Value.slice (some ⟨r3,0,none⟩) T.firsts.length k3) := hyb.cell 4
  have f2 := hyb.frozen 3
  go_simp
  refine hK _ _ (fun hn => absurd (by decide) hn) ?_
  replace hS11 := Now.set_ (pre:=[]) hS11 3 (.slice (some ⟨r2,0,none⟩) (T.lens.length - 1) k2)
  clear hK K hyb c2 c3 c4 f2 h1
  generalize w1.setCell ⟨y,3,none⟩ (.slice (some ⟨r2,0,none⟩) (T.lens.length - 1) k2) = v21 at hS11 ⊢
  clear w1
  apply wpAnyE_pure (KeepG.grow y) 22
  · kernel_rfl
  · intro _ _ d _ _ h;cases d <;> exact h
  · exact rfl
  · kernel_rfl
  · intro w1
    go_simp
    exact ⟨rfl,sqN _⟩
  try simp only [Act.put,sqA,sqB,sqC]
  refine wpAnyE_fork [23] (by kernel_rfl) (by simp) ?_
  refine sqM ?_
  refine ⟨_,rfl,?_⟩
  intro w1 h1 K hK
  replace hS11 := Now.below hS11 h1
  have hyb := Now.blk (pre:=[]) hS11
  have c2 : _ = some (Value.slice (some ⟨r1,0,none⟩) (T.order.length - 1) k1) := hyb.cell 2
  have c3 : _ = some (Value.slice (some ⟨r2,0,none⟩) (T.lens.length - 1) k2) := hyb.cell 3
  have c4 : _ = some (Value.slice (some ⟨r3,0,none⟩) T.firsts.length k3) := hyb.cell 4
  have f2 := hyb.frozen 4
  go_simp
  refine hK _ _ (fun hn => absurd (by decide) hn) ?_
  replace hS11 := Now.set_ (pre:=[]) hS11 4 (.slice (some ⟨r3,0,none⟩) (T.firsts.length - 1) k3)
  clear hK K hyb c2 c3 c4 f2 h1
  generalize w1.setCell ⟨y,4,none⟩ (.slice (some ⟨r3,0,none⟩) (T.firsts.length - 1) k3) = v23 at hS11 ⊢
  clear w1
  refine wpAnyE_end (by kernel_rfl) fun v8 h8 => ?_
  have hS12 := Now.below hS11 h8
  have hyb := Now.blk (pre:=[]) hS12
  have c0 : v8.cell? ⟨y,0,none⟩ = some (.int .i64 T.segs) := hyb.cell 0
  have c1 : v8.cell? ⟨y,1,none⟩ = some (.int .i64 T.slots) := hyb.cell 1
  have c2 : v8.cell? ⟨y,2,none⟩ = some (.slice (some ⟨r1,0,none⟩) (T.order.length - 1) k1) := hyb.cell 2
  have c3 : v8.cell? ⟨y,3,none⟩ = some (.slice (some ⟨r2,0,none⟩) (T.lens.length - 1) k2) := hyb.cell 3
  have c4 : v8.cell? ⟨y,4,none⟩ = some (.slice (some ⟨r3,0,none⟩) (T.firsts.length - 1) k3) := hyb.cell 4
  have hr := Now.blk (pre:=[_,_,_,_]) hS12
  have f := fun k => hr.frozen k
  have r0 : v8.cell? ⟨w.heap.size + 1,0,none⟩ = some (.int .i64 0) := hr.cell 0
  have r1' : v8.cell? ⟨w.heap.size + 1,1,none⟩ = some (.int .i64 0) := hr.cell 1
  have r2' : v8.cell? ⟨w.heap.size + 1,2,none⟩ = some (.slice none 0 0) := hr.cell 2
  have r3' : v8.cell? ⟨w.heap.size + 1,3,none⟩ = some (.slice none 0 0) := hr.cell 3
  have r4' : v8.cell? ⟨w.heap.size + 1,4,none⟩ = some (.slice none 0 0) := hr.cell 4
  have hS13 := Lib.hid (Now.set5 (pre:=[_,_,_,_]) hS12 (.int .i64 T.segs) (.int .i64 T.slots) (.slice (some ⟨r1,0,none⟩) (T.order.length - 1) k1) (.slice (some ⟨r2,0,none⟩) (T.lens.length - 1) k2) (.slice (some ⟨r3,0,none⟩) (T.firsts.length - 1) k3))
  clear hS11 hS12 hyb hr
  go_wp2_with fail
  have e1 : (T.drop i).order.length = T.order.length - 1 := by show (T.order.eraseIdx i).length = _;rw [List.length_eraseIdx,if_pos (by omega)]
  have e2 : (T.drop i).lens.length = T.lens.length - 1 := by show (T.lens.eraseIdx i).length = _;rw [List.length_eraseIdx,if_pos (by have := HLEN.out;omega)]
  have e3 : (T.drop i).firsts.length = T.firsts.length - 1 := by show (T.firsts.eraseIdx i).length = _;rw [List.length_eraseIdx,if_pos (by have := HFST.out;omega)]
  have h14 := Now.drop (pre:=[_,_,_]) (Now.drop (pre:=[_,_,_]) (Now.drop (pre:=[]) hS13.out))
  refine bodyPost_ret (v := .tuple #[.agg (tabCells (T.drop i) (some ⟨r1,0,none⟩) k1 (some ⟨r2,0,none⟩) k2 (some ⟨r3,0,none⟩) k3), .int .i64 0]) ?_ rfl ⟨_,_,_,_,_,_,rfl,?_⟩
  · unfold tabCells
    rw [e1,e2,e3]
    exact results_row_tmp rfl _ _ _ _ _ _ _ (by simp) (by simp) (Now.blk (pre:=[_,_,_,_]) hS13.out) Tryz.underlying64 rfl (by kernel_rfl)
  · unfold tabParts
    rw [e1,e2,e3]
    exact h14
end Go.Proofs.YtidacaihmjdmkaaGreat
namespace Go.Proofs.YtidacaihmjdmkaaGreat
open Go.RowKit Go.Shelf
attribute [local go_sem] Oper.semAt_some
def Tab.freeTo (T : Tab) (k : Nat) : List Int := ((List.range k).map fun i : Nat => (i : Int)).filter fun s => decide (idx T.order s < 0)
theorem freeTo_yes (T : Tab) (k : Nat) (h : idx T.order (k : Int) < 0) : T.freeTo (k + 1) = T.freeTo k ++ [(k : Int)] := by
  simp [Tab.freeTo,List.range_succ,h]
theorem freeTo_no (T : Tab) (k : Nat) (h : ¬ idx T.order (k : Int) < 0) : T.freeTo (k + 1) = T.freeTo k := by
  simp [Tab.freeTo,List.range_succ,h]
theorem freeTo_length (T : Tab) (k : Nat) : (T.freeTo k).length ≤ k := by
  have := List.length_filter_le (fun s => decide (idx T.order s < 0)) ((List.range k).map fun i : Nat => (i : Int))
  simpa [Tab.freeTo] using this
abbrev freeEnc (x : Int) : Array Value := #[.int .i64 x]
set_option maxHeartbeats 4000000 in
theorem free1_in (n : Nat) (hn : 1 ≤ n) (l Bs n₀ : Nat) (T : Tab) (hT : T.Ok) (N : Nat) (hN : T.segs = N) (AO : Option Addr) (cO : Nat) (AL : Option Addr) (cL : Nat) (AF : Option Addr) (cF : Nat) (J Jx : List Int → World → Prop)
    (hY : ∀ pre x W,J pre W → pre.length < N → YieldAt Fence.wide (n - 1) Tryz.prog l (freeEnc x) W fun e W' =>
      (e = .returned (.bool true) ∧ J (pre ++ [x]) W' ∧ Below n₀ W W') ∨ (e = .returned (.bool false) ∧ Jx (pre ++ [x]) W'))
    (W : World) (hBs : Blk W Bs 64 (tabCells T AO cO AL cL AF cF)) (hBn : Bs < n₀) (hr : Reads W n₀ 1 AO T.order.length (ints T.order)) (h0 : J [] W) :
    CallsIn Fence.wide n Tryz.prog 187 #[.func (.yield l) #[] #[], .pointer (some ⟨Bs,0,none⟩)] W fun e W' => (∃ v,e = .returned v) ∧
      ((∃ ys,ys = T.freeTo N ∧ J ys W') ∨ (∃ pre,(∃ k,k < N ∧ idx T.order (k : Int) < 0 ∧ pre = T.freeTo (k + 1)) ∧ Jx pre W')) := by
  have hmn := hT.many
  have hsg := hT.segs
  refine callsIn_of_wp Tryz.func187 rfl trivial ?_ rfl
  simp only [Tryz.ntmps187,List.size_toArray,List.length_cons,List.length_nil,Nat.reduceAdd,Nat.reduceSub,Array.replicate_succ,Array.replicate_zero,List.push_toArray,List.append_toArray,List.nil_append,List.cons_append]
  have c0 : W.cell? ⟨Bs,0,none⟩ = some (.int .i64 T.segs) := hBs.cell 0
  rw [hN] at c0
  gi_wp2
  clear c0
  gi_loopw [3,6] (fun _ i wr => ∃ k : Nat,k ≤ N ∧ i = .int .i64 k ∧ J (T.freeTo k) wr ∧ Below n₀ W wr) (fun _ i _ => N - (intOf i).toNat)
  case atStart => exact ⟨0,Nat.zero_le _,rfl,h0,Below.refl _ _⟩
  case round =>
    obtain ⟨k,hk,rfl,hJs,hnx⟩ := hrel
    have c2 : wr.cell? ⟨Bs,2,none⟩ = some (.slice AO T.order.length cO) := (hnx.cell (p := ⟨Bs,2,none⟩) hBn).trans (hBs.cell 2)
    by_cases hlt : k < N
    · have hcon := Contains_any AO T.order.length cO n₀ T.order (k : Int) wr (hr.below hnx) (by omega)
      by_cases hf : idx T.order (k : Int) < 0
      · have hfs := freeTo_yes T k hf
        have hfl := freeTo_length T k
        rw [show decide (0 ≤ idx T.order (k : Int)) = false by simp;omega] at hcon
        obtain ⟨fn,tmps,assign,body,hy,hR⟩ := hY _ (k : Int) wr hJs (by omega)
        have HFS := Lib.hid hfs
        have HF := Lib.hid hf
        clear hfs hf hfl
        gi_wp2_with (refine ⟨trivial,?_⟩;gi_at_call 109;refine (callsIn_wide.2 hcon).mono ?_;rintro e w' ⟨rfl,rfl⟩)
        refine hR.mono ?_
        rintro e W3 (⟨rfl,hJ3,hk3⟩ | ⟨rfl,hJx3⟩)
        · gi_wp2
          go_roundw
          case rel => exact ⟨k + 1,by omega,by go_num,by rw [HFS.out];exact hJ3,hnx.trans hk3⟩
          case measure => simp [intOf];omega
        · gi_wp2
          refine bodyPost_ret (results_none rfl _ _ _) rfl ?_
          exact ⟨⟨_,rfl⟩, .inr ⟨_,⟨k,hlt,HF.out,HFS.out.symm⟩,hJx3⟩⟩
      · have hfs := freeTo_no T k hf
        rw [show decide (0 ≤ idx T.order (k : Int)) = true by simp;omega] at hcon
        have HFS := Lib.hid hfs
        clear hfs hf
        gi_wp2_with (refine ⟨trivial,?_⟩;gi_at_call 109;refine (callsIn_wide.2 hcon).mono ?_;rintro e w' ⟨rfl,rfl⟩)
        refine ⟨(fun _ h => by cases h),?_⟩
        gi_wp2
        go_roundw
        case rel => exact ⟨k + 1,by omega,by go_num,by rw [HFS.out];exact hJs,hnx⟩
        case measure => simp [intOf];omega
    · obtain rfl : k = N := by omega
      gi_wp2
      go_end0
      exact ⟨⟨_,rfl⟩, .inl ⟨_,rfl,hJs⟩⟩
theorem free_stops (n : Nat) (hn : 1 ≤ n) (Bs n₀ : Nat) (T : Tab) (hT : T.Ok) (N : Nat) (hN : T.segs = N) (AO : Option Addr) (cO : Nat) (AL : Option Addr) (cL : Nat) (AF : Option Addr) (cF : Nat) (w : World) (hBs : Bs < n₀) (hn₀ : n₀ ≤ w.heap.size)
    (hb : Blk w Bs 64 (tabCells T AO cO AL cL AF cF)) (hr : Reads w n₀ 1 AO T.order.length (ints T.order)) :
    SeqStopsK Fence.wide n Tryz.prog 187 #[.pointer (some ⟨Bs,0,none⟩)] freeEnc (Below n₀) (fun ys => ys = T.freeTo N) (fun pre => ∃ k,k < N ∧ idx T.order (k : Int) < 0 ∧ pre = T.freeTo (k + 1)) N w := fun l J Jx W hW _ _ hY h0 => by
  have hW' := hW.mono hn₀
  exact free1_in n hn l Bs n₀ T hT N hN AO cO AL cL AF cF J Jx hY W (hb.below hW' hBs) hBs (hr.below hW') h0
theorem free_in (n : Nat) (T : Tab) (AO : Option Addr) (cO : Nat) (AL : Option Addr) (cL : Nat) (AF : Option Addr) (cF : Nat) (w : World) :
    CallsIn Fence.wide n Tryz.prog 170 #[.agg (tabCells T AO cO AL cL AF cF)] w fun e w' => e = .returned (.func (.func 187) #[] #[.pointer (some ⟨w.heap.size,0,none⟩)]) ∧ w.alloc (.cells (tabCells T AO cO AL cL AF cF) 64) = w' := by
  refine callsIn_of_wp Tryz.func170 rfl trivial ?_ rfl
  simp only [Tryz.ntmps170,List.size_toArray,List.length_cons,List.length_nil,Nat.reduceAdd,Nat.reduceSub,Array.replicate_succ,Array.replicate_zero,List.push_toArray,List.append_toArray,List.nil_append,List.cons_append]
  gi_wp2
  go_ret
  exact ⟨rfl,rfl⟩
end Go.Proofs.YtidacaihmjdmkaaGreat
