/- What the laws of this seat lean on, part 18. -/
import Derived.Test.YtidacaihmjdmkaaGreatZK16
import Derived.Test.YtidacaihmjdmkaaGreatZK5
set_option linter.unusedSimpArgs false
set_option linter.unusedVariables false
set_option maxRecDepth 100000
namespace Go.Proofs.YtidacaihmjdmkaaGreat
open Go.RowKit
attribute [local go_sem high] run_mx run_mn
theorem own8_last {w v : World} {T : Thing} {y : Nat} {L : List Thing} (hS : Sep w v (T :: Thing.cells y 71 #[.int .i64 0, .int .i64 0, .slice none 0 0, .slice none 0 0, .slice none 0 0] :: L)) (hy : w.heap.size ≤ y) (x0 x1 x2 x3 x4 : Value) :
    v.cell? ⟨y,0,none⟩ = some (.int .i64 0) ∧ v.cell? ⟨y,1,none⟩ = some (.int .i64 0) ∧ v.cell? ⟨y,2,none⟩ = some (.slice none 0 0) ∧ v.cell? ⟨y,3,none⟩ = some (.slice none 0 0) ∧ v.cell? ⟨y,4,none⟩ = some (.slice none 0 0) ∧ (∀ k,v.frozen? ⟨y,k,none⟩ = false) ∧
    Sep w (((((v.setCell ⟨y,0,none⟩ x0).setCell ⟨y,1,none⟩ x1).setCell ⟨y,2,none⟩ x2).setCell ⟨y,3,none⟩ x3).setCell ⟨y,4,none⟩ x4) (T :: Thing.cells y 71 #[x0,x1,x2,x3,x4] :: L) ∧
    Below w.heap.size v (((((v.setCell ⟨y,0,none⟩ x0).setCell ⟨y,1,none⟩ x1).setCell ⟨y,2,none⟩ x2).setCell ⟨y,3,none⟩ x3).setCell ⟨y,4,none⟩ x4) := by
  have hb := Now.blk (pre:=[_]) hS
  exact ⟨hb.cell 0,hb.cell 1,hb.cell 2,hb.cell 3,hb.cell 4,fun k => hb.frozen k,Now.set5 (pre:=[_]) hS x0 x1 x2 x3 x4,((((((Below.refl _ v).setCell hy _).setCell hy _).setCell hy _).setCell hy _).setCell hy _)⟩
set_option maxRecDepth 100000 in
set_option maxHeartbeats 8000000 in
theorem own8_any (T : Tab) (hT : T.Short) (AO : Option Addr) (cO : Nat) (AL : Option Addr) (cL : Nat) (AF : Option Addr) (cF : Nat) (w : World) (h : TabIn w w.heap.size T AO AL AF) :
    Calls Tryz.prog 142 #[.agg (tabCells T AO cO AL cL AF cF)] w fun e w' => OwnTab w w' T e := by
  obtain ⟨i0,hi0,hz0,hz1,hz2⟩ := info_parts infoInt
  obtain ⟨j0,hj0,hy0,hy1,hy2⟩ := info_parts infoU64
  have n1 : 0 + T.order.length ≤ maxLen := by have := hT.o;unfold maxLen;omega
  have n2 : 0 + T.lens.length ≤ maxLen := by have := hT.l;unfold maxLen;omega
  have n3 : 0 + T.firsts.length ≤ maxLen := by have := hT.f;unfold maxLen;omega
  have n4 : (0 + T.order.length) * 8 ≤ 140737488355328 := by have := hT.o;omega
  have n5 : (0 + T.lens.length) * 8 ≤ 140737488355328 := by have := hT.l;omega
  have n6 : (0 + T.firsts.length) * 8 ≤ 140737488355328 := by have := hT.f;omega
  obtain ⟨rd0,rd1,rd2⟩ := h
  have hS : Sep w ((w.alloc (.cells (tabCells T AO cO AL cL AF cF) 71)).alloc (.cells #[.int .i64 0, .int .i64 0, .slice none 0 0, .slice none 0 0, .slice none 0 0] 71)) [Thing.cells w.heap.size 71 (tabCells T AO cO AL cL AF cF),Thing.cells (w.heap.size + 1) 71 #[.int .i64 0, .int .i64 0, .slice none 0 0, .slice none 0 0, .slice none 0 0],Thing.none_,Thing.none_,Thing.none_] := by
    have a := Now.swap (Now.pushCells (Now.pushCells (Now.pushNone (Now.pushNone (Now.pushNone (Sep.start w)))) 71 (tabCells T AO cO AL cL AF cF)) 71 #[.int .i64 0, .int .i64 0, .slice none 0 0, .slice none 0 0, .slice none 0 0])
    simpa using a
  go_enter Tryz.func142,Tryz.ntmps142
  go_wp2_with fail
  generalize (w.alloc (.cells (tabCells T AO cO AL cL AF cF) 71)).alloc (.cells #[.int .i64 0, .int .i64 0, .slice none 0 0, .slice none 0 0, .slice none 0 0] 71) = wb at hS ⊢
  have hb := Now.blk (pre:=[]) hS
  have hlt : w.heap.size < wb.heap.size := hb.lt
  have hcell : ∀ w1 : World,(w1.heap[w.heap.size]? = wb.drew.heap[w.heap.size]? ∧ wb.drew.heap.size ≤ w1.heap.size) → w1.cell? ⟨w.heap.size,0,none⟩ = some (.int .i64 T.segs) ∧ w1.cell? ⟨w.heap.size,1,none⟩ = some (.int .i64 T.slots) ∧ w1.cell? ⟨w.heap.size,2,none⟩ = some (.slice AO T.order.length cO) ∧ w1.cell? ⟨w.heap.size,3,none⟩ = some (.slice AL T.lens.length cL) ∧ w1.cell? ⟨w.heap.size,4,none⟩ = some (.slice AF T.firsts.length cF) := fun w1 h1 => by
    have hb1 : Blk w1 w.heap.size 71 (tabCells T AO cO AL cL AF cF) := h1.1.trans hb
    exact ⟨hb1.cell 0,hb1.cell 1,hb1.cell 2,hb1.cell 3,hb1.cell 4⟩
  have HB : w.heap.size < wb.drew.heap.size := hlt
  replace hS := hS.drew
  refine wp_region_takes (KeepG.grow w.heap.size) [] [(0,false),(1,false),(2,false),(3,false),(5,false),(6,false),(9,false),(10,false),(13,false),(14,false)] 8 (by kernel_rfl) (by kernel_rfl) rfl (by kernel_rfl) (by intro _ _ d _ _ h;cases d <;> exact h) ?_
  iterate 10
    (apply wpTakes_take
     · exact rfl
     · intro w1 hR1;have h1 := hR1 HB
       (obtain ⟨c0,c1,c2,c3,c4⟩ := hcell w1 h1)
       go_simp
       first
         | with_reducible exact ⟨rfl,sqN _⟩
     simp only [Act.put,sqA,sqB,sqC])
  refine wpTakes_done ?_
  clear hcell hb
  generalize wb.drew = wc at hS ⊢
  -- TREE
  refine wpAnyE_fork [4,8,12] (by kernel_rfl) (by simp) ?_
  refine List.forall_mem_cons.2 ⟨?_,List.forall_mem_cons.2 ⟨?_,List.forall_mem_cons.2 ⟨?_,List.forall_mem_nil _⟩⟩⟩
  · refine ⟨_,rfl,?_⟩
    intro w1 h1 K hK
    replace hS := Now.built (pre:=[_,_]) (Now.below hS h1) 3 1
    go_simp
    refine hK _ _ (fun _ hg => ⟨Below.heap_alloc _ _ _ hg,by simp⟩) ?_
    clear hK K h1
    try simp only [Act.put,sqA,sqB,sqC]
    generalize w1.alloc (.cells #[] 3) = wc1 at hS ⊢
    generalize w1.heap.size = kb1 at hS ⊢
    clear w1
    refine wpAnyE_fork [7,8,12] (by kernel_rfl) (by simp) ?_
    refine List.forall_mem_cons.2 ⟨?_,List.forall_mem_cons.2 ⟨?_,List.forall_mem_cons.2 ⟨?_,List.forall_mem_nil _⟩⟩⟩
    · refine ⟨_,rfl,?_⟩
      intro w1 h1 K hK
      replace hS := Now.below hS h1
      refine step_append_any w1 rfl _ _ 51 rfl 0 3 i0 _ 1 8 Tryz.underlying51 hi0 hz0 hz1 hz2 rfl (by decide) _ _ _ rfl (Now.row (pre:=[_,_]) hS) _ _ T.order.length _ (ints T.order) rfl (rd0.below (Sep.base hS)) (ints_one _) n1 n4 (Nat.zero_le _) ?_
      intro v2 w2 ho hg hn
      rw [Nat.zero_add,List.nil_append] at ho
      obtain ⟨A1,c1,rfl,_⟩ := own_slice ho
      have hbo := Now.blk (pre:=[]) hS
      replace hS := Now.grown (pre:=[_,_]) hS ho hg (hn.imp id fun h => ⟨_,Nat.le_refl _,h⟩)
      have hbn := Now.blk (pre:=[]) hS
      refine hK _ _ (fun _ _ => ⟨hbn.trans hbo.symm,hg.size⟩) ?_
      clear hK K ho hg hn hbo hbn h1
      try simp only [Act.put,sqA,sqB,sqC]
      clear w1
      refine wpAnyE_fork [8,12] (by kernel_rfl) (by simp) ?_
      refine List.forall_mem_cons.2 ⟨?_,List.forall_mem_cons.2 ⟨?_,List.forall_mem_nil _⟩⟩
      · refine ⟨_,rfl,?_⟩
        intro w1 h1 K hK
        replace hS := Now.built (pre:=[_,_,_]) (Now.below hS h1) 3 1
        go_simp
        refine hK _ _ (fun _ hg => ⟨Below.heap_alloc _ _ _ hg,by simp⟩) ?_
        clear hK K h1
        try simp only [Act.put,sqA,sqB,sqC]
        generalize w1.alloc (.cells #[] 3) = wc3 at hS ⊢
        generalize w1.heap.size = kb2 at hS ⊢
        clear w1
        refine wpAnyE_fork [11,12] (by kernel_rfl) (by simp) ?_
        refine List.forall_mem_cons.2 ⟨?_,List.forall_mem_cons.2 ⟨?_,List.forall_mem_nil _⟩⟩
        · refine ⟨_,rfl,?_⟩
          intro w1 h1 K hK
          replace hS := Now.below hS h1
          refine step_append_any w1 rfl _ _ 51 rfl 0 3 i0 _ 1 8 Tryz.underlying51 hi0 hz0 hz1 hz2 rfl (by decide) _ _ _ rfl (Now.row (pre:=[_,_,_]) hS) _ _ T.lens.length _ (ints T.lens) rfl (rd1.below (Sep.base hS)) (ints_one _) n2 n5 (Nat.zero_le _) ?_
          intro v2 w2 ho hg hn
          rw [Nat.zero_add,List.nil_append] at ho
          obtain ⟨A2,c2,rfl,_⟩ := own_slice ho
          have hbo := Now.blk (pre:=[]) hS
          replace hS := Now.grown (pre:=[_,_,_]) hS ho hg (hn.imp id fun h => ⟨_,Nat.le_refl _,h⟩)
          have hbn := Now.blk (pre:=[]) hS
          refine hK _ _ (fun _ _ => ⟨hbn.trans hbo.symm,hg.size⟩) ?_
          clear hK K ho hg hn hbo hbn h1
          try simp only [Act.put,sqA,sqB,sqC]
          clear w1
          refine wpAnyE_fork [12] (by kernel_rfl) (by simp) ?_
          refine sqM ?_
          · refine ⟨_,rfl,?_⟩
            intro w1 h1 K hK
            replace hS := Now.built (pre:=[_,_,_,_]) (Now.below hS h1) 43 1
            go_simp
            refine hK _ _ (fun _ hg => ⟨Below.heap_alloc _ _ _ hg,by simp⟩) ?_
            clear hK K h1
            try simp only [Act.put,sqA,sqB,sqC]
            generalize w1.alloc (.cells #[] 43) = wc5 at hS ⊢
            generalize w1.heap.size = kb3 at hS ⊢
            clear w1
            refine wpAnyE_fork [15] (by kernel_rfl) (by simp) ?_
            refine sqM ?_
            · refine ⟨_,rfl,?_⟩
              intro w1 h1 K hK
              replace hS := Now.below hS h1
              refine step_append_any w1 rfl _ _ 62 rfl 0 43 j0 _ 1 8 Tryz.underlying62 hj0 hy0 hy1 hy2 rfl (by decide) _ _ _ rfl (Now.row (pre:=[_,_,_,_]) hS) _ _ T.firsts.length _ (u64s T.firsts) rfl (rd2.below (Sep.base hS)) (u64s_one _) n3 n6 (Nat.zero_le _) ?_
              intro v2 w2 ho hg hn
              rw [Nat.zero_add,List.nil_append] at ho
              obtain ⟨A3,c3,rfl,_⟩ := own_slice ho
              have hbo := Now.blk (pre:=[]) hS
              replace hS := Now.grown (pre:=[_,_,_,_]) hS ho hg (hn.imp id fun h => ⟨_,Nat.le_refl _,h⟩)
              have hbn := Now.blk (pre:=[]) hS
              refine hK _ _ (fun _ _ => ⟨hbn.trans hbo.symm,hg.size⟩) ?_
              clear hK K ho hg hn hbo hbn h1
              try simp only [Act.put,sqA,sqB,sqC]
              clear w1
              refine wpAnyE_fork [16] (by kernel_rfl) (by simp) ?_
              refine sqM ?_
              refine ⟨_,rfl,?_⟩
              intro w1 h1 K hK
              replace hS := Now.below hS h1
              go_simp
              refine hK _ _ (fun _ _ => ⟨rfl,Nat.le_refl _⟩) ?_
              clear hK K h1
              try simp only [Act.put,sqA,sqB,sqC]
              refine wpAnyE_fork [17] (by kernel_rfl) (by simp) ?_
              refine sqM ?_
              refine ⟨_,rfl,?_⟩
              intro w2 h2 K hK
              replace hS := Now.below hS h2
              obtain ⟨r0,r1,r2,r3,r4,fr,hS4,hB4⟩ := own8_last hS (Nat.le_succ _) (.int .i64 T.segs) (.int .i64 T.slots) (.slice A1 T.order.length c1) (.slice A2 T.lens.length c2) (.slice A3 T.firsts.length c3)
              have f0 := fr 0
              have f1 := fr 1
              have f2 := fr 2
              have f3 := fr 3
              have f4 := fr 4
              go_simp
              have hbo := Now.blk (pre:=[]) hS
              have hbn := Now.blk (pre:=[]) hS4
              refine hK _ _ (fun _ _ => ⟨hbn.trans hbo.symm,hB4.size⟩) ?_
              clear hK K h2 hS hbo hbn r0 r1 r2 r3 r4 fr f0 f1 f2 f3 f4
              try simp only [Act.put,sqA,sqB,sqC]
              refine wpAnyE_end (by kernel_rfl) fun w5 h5 => ?_
              have hS5 := Now.below hS4 h5
              go_wp2_with fail
              refine bodyPost_ret (v := .agg #[.int .i64 T.segs, .int .i64 T.slots, .slice A1 T.order.length c1, .slice A2 T.lens.length c2, .slice A3 T.firsts.length c3]) ?_ rfl ⟨_,_,_,_,_,_,rfl,Now.drop (pre:=[]) (Now.drop (pre:=[]) hS5)⟩
              exact results_cell_row rfl _ _ _ _ _ (0,0) _ (by simp) (Now.blk (pre:=[_]) hS5) Tryz.underlying71 rfl (by kernel_rfl)
        · refine ⟨_,rfl,?_⟩
          intro w1 h1 K hK
          replace hS := Now.built (pre:=[_,_,_,_]) (Now.below hS h1) 43 1
          go_simp
          refine hK _ _ (fun _ hg => ⟨Below.heap_alloc _ _ _ hg,by simp⟩) ?_
          clear hK K h1
          try simp only [Act.put,sqA,sqB,sqC]
          generalize w1.alloc (.cells #[] 43) = wc4 at hS ⊢
          generalize w1.heap.size = kb3 at hS ⊢
          clear w1
          refine wpAnyE_fork [11] (by kernel_rfl) (by simp) ?_
          refine sqM ?_
          · refine ⟨_,rfl,?_⟩
            intro w1 h1 K hK
            replace hS := Now.below hS h1
            refine step_append_any w1 rfl _ _ 51 rfl 0 3 i0 _ 1 8 Tryz.underlying51 hi0 hz0 hz1 hz2 rfl (by decide) _ _ _ rfl (Now.row (pre:=[_,_,_]) hS) _ _ T.lens.length _ (ints T.lens) rfl (rd1.below (Sep.base hS)) (ints_one _) n2 n5 (Nat.zero_le _) ?_
            intro v2 w2 ho hg hn
            rw [Nat.zero_add,List.nil_append] at ho
            obtain ⟨A2,c2,rfl,_⟩ := own_slice ho
            have hbo := Now.blk (pre:=[]) hS
            replace hS := Now.grown (pre:=[_,_,_]) hS ho hg (hn.imp id fun h => ⟨_,Nat.le_refl _,h⟩)
            have hbn := Now.blk (pre:=[]) hS
            refine hK _ _ (fun _ _ => ⟨hbn.trans hbo.symm,hg.size⟩) ?_
            clear hK K ho hg hn hbo hbn h1
            try simp only [Act.put,sqA,sqB,sqC]
            clear w1
            refine wpAnyE_fork [15] (by kernel_rfl) (by simp) ?_
            refine sqM ?_
            · refine ⟨_,rfl,?_⟩
              intro w1 h1 K hK
              replace hS := Now.below hS h1
              refine step_append_any w1 rfl _ _ 62 rfl 0 43 j0 _ 1 8 Tryz.underlying62 hj0 hy0 hy1 hy2 rfl (by decide) _ _ _ rfl (Now.row (pre:=[_,_,_,_]) hS) _ _ T.firsts.length _ (u64s T.firsts) rfl (rd2.below (Sep.base hS)) (u64s_one _) n3 n6 (Nat.zero_le _) ?_
              intro v2 w2 ho hg hn
              rw [Nat.zero_add,List.nil_append] at ho
              obtain ⟨A3,c3,rfl,_⟩ := own_slice ho
              have hbo := Now.blk (pre:=[]) hS
              replace hS := Now.grown (pre:=[_,_,_,_]) hS ho hg (hn.imp id fun h => ⟨_,Nat.le_refl _,h⟩)
              have hbn := Now.blk (pre:=[]) hS
              refine hK _ _ (fun _ _ => ⟨hbn.trans hbo.symm,hg.size⟩) ?_
              clear hK K ho hg hn hbo hbn h1
              try simp only [Act.put,sqA,sqB,sqC]
              clear w1
              refine wpAnyE_fork [16] (by kernel_rfl) (by simp) ?_
              refine sqM ?_
              refine ⟨_,rfl,?_⟩
              intro w1 h1 K hK
              replace hS := Now.below hS h1
              go_simp
              refine hK _ _ (fun _ _ => ⟨rfl,Nat.le_refl _⟩) ?_
              clear hK K h1
              try simp only [Act.put,sqA,sqB,sqC]
              refine wpAnyE_fork [17] (by kernel_rfl) (by simp) ?_
              refine sqM ?_
              refine ⟨_,rfl,?_⟩
              intro w2 h2 K hK
              replace hS := Now.below hS h2
              obtain ⟨r0,r1,r2,r3,r4,fr,hS4,hB4⟩ := own8_last hS (Nat.le_succ _) (.int .i64 T.segs) (.int .i64 T.slots) (.slice A1 T.order.length c1) (.slice A2 T.lens.length c2) (.slice A3 T.firsts.length c3)
              have f0 := fr 0
              have f1 := fr 1
              have f2 := fr 2
              have f3 := fr 3
              have f4 := fr 4
              go_simp
              have hbo := Now.blk (pre:=[]) hS
              have hbn := Now.blk (pre:=[]) hS4
              refine hK _ _ (fun _ _ => ⟨hbn.trans hbo.symm,hB4.size⟩) ?_
              clear hK K h2 hS hbo hbn r0 r1 r2 r3 r4 fr f0 f1 f2 f3 f4
              try simp only [Act.put,sqA,sqB,sqC]
              refine wpAnyE_end (by kernel_rfl) fun w5 h5 => ?_
              have hS5 := Now.below hS4 h5
              go_wp2_with fail
              refine bodyPost_ret (v := .agg #[.int .i64 T.segs, .int .i64 T.slots, .slice A1 T.order.length c1, .slice A2 T.lens.length c2, .slice A3 T.firsts.length c3]) ?_ rfl ⟨_,_,_,_,_,_,rfl,Now.drop (pre:=[]) (Now.drop (pre:=[]) hS5)⟩
              exact results_cell_row rfl _ _ _ _ _ (0,0) _ (by simp) (Now.blk (pre:=[_]) hS5) Tryz.underlying71 rfl (by kernel_rfl)
      · refine ⟨_,rfl,?_⟩
        intro w1 h1 K hK
        replace hS := Now.built (pre:=[_,_,_,_]) (Now.below hS h1) 43 1
        go_simp
        refine hK _ _ (fun _ hg => ⟨Below.heap_alloc _ _ _ hg,by simp⟩) ?_
        clear hK K h1
        try simp only [Act.put,sqA,sqB,sqC]
        generalize w1.alloc (.cells #[] 43) = wc3 at hS ⊢
        generalize w1.heap.size = kb3 at hS ⊢
        clear w1
        refine wpAnyE_fork [8] (by kernel_rfl) (by simp) ?_
        refine sqM ?_
        · refine ⟨_,rfl,?_⟩
          intro w1 h1 K hK
          replace hS := Now.built (pre:=[_,_,_]) (Now.below hS h1) 3 1
          go_simp
          refine hK _ _ (fun _ hg => ⟨Below.heap_alloc _ _ _ hg,by simp⟩) ?_
          clear hK K h1
          try simp only [Act.put,sqA,sqB,sqC]
          generalize w1.alloc (.cells #[] 3) = wc4 at hS ⊢
          generalize w1.heap.size = kb2 at hS ⊢
          clear w1
          refine wpAnyE_fork [11] (by kernel_rfl) (by simp) ?_
          refine sqM ?_
          · refine ⟨_,rfl,?_⟩
            intro w1 h1 K hK
            replace hS := Now.below hS h1
            refine step_append_any w1 rfl _ _ 51 rfl 0 3 i0 _ 1 8 Tryz.underlying51 hi0 hz0 hz1 hz2 rfl (by decide) _ _ _ rfl (Now.row (pre:=[_,_,_]) hS) _ _ T.lens.length _ (ints T.lens) rfl (rd1.below (Sep.base hS)) (ints_one _) n2 n5 (Nat.zero_le _) ?_
            intro v2 w2 ho hg hn
            rw [Nat.zero_add,List.nil_append] at ho
            obtain ⟨A2,c2,rfl,_⟩ := own_slice ho
            have hbo := Now.blk (pre:=[]) hS
            replace hS := Now.grown (pre:=[_,_,_]) hS ho hg (hn.imp id fun h => ⟨_,Nat.le_refl _,h⟩)
            have hbn := Now.blk (pre:=[]) hS
            refine hK _ _ (fun _ _ => ⟨hbn.trans hbo.symm,hg.size⟩) ?_
            clear hK K ho hg hn hbo hbn h1
            try simp only [Act.put,sqA,sqB,sqC]
            clear w1
            refine wpAnyE_fork [15] (by kernel_rfl) (by simp) ?_
            refine sqM ?_
            · refine ⟨_,rfl,?_⟩
              intro w1 h1 K hK
              replace hS := Now.below hS h1
              refine step_append_any w1 rfl _ _ 62 rfl 0 43 j0 _ 1 8 Tryz.underlying62 hj0 hy0 hy1 hy2 rfl (by decide) _ _ _ rfl (Now.row (pre:=[_,_,_,_]) hS) _ _ T.firsts.length _ (u64s T.firsts) rfl (rd2.below (Sep.base hS)) (u64s_one _) n3 n6 (Nat.zero_le _) ?_
              intro v2 w2 ho hg hn
              rw [Nat.zero_add,List.nil_append] at ho
              obtain ⟨A3,c3,rfl,_⟩ := own_slice ho
              have hbo := Now.blk (pre:=[]) hS
              replace hS := Now.grown (pre:=[_,_,_,_]) hS ho hg (hn.imp id fun h => ⟨_,Nat.le_refl _,h⟩)
              have hbn := Now.blk (pre:=[]) hS
              refine hK _ _ (fun _ _ => ⟨hbn.trans hbo.symm,hg.size⟩) ?_
              clear hK K ho hg hn hbo hbn h1
              try simp only [Act.put,sqA,sqB,sqC]
              clear w1
              refine wpAnyE_fork [16] (by kernel_rfl) (by simp) ?_
              refine sqM ?_
              refine ⟨_,rfl,?_⟩
              intro w1 h1 K hK
              replace hS := Now.below hS h1
              go_simp
              refine hK _ _ (fun _ _ => ⟨rfl,Nat.le_refl _⟩) ?_
              clear hK K h1
              try simp only [Act.put,sqA,sqB,sqC]
              refine wpAnyE_fork [17] (by kernel_rfl) (by simp) ?_
              refine sqM ?_
              refine ⟨_,rfl,?_⟩
              intro w2 h2 K hK
              replace hS := Now.below hS h2
              obtain ⟨r0,r1,r2,r3,r4,fr,hS4,hB4⟩ := own8_last hS (Nat.le_succ _) (.int .i64 T.segs) (.int .i64 T.slots) (.slice A1 T.order.length c1) (.slice A2 T.lens.length c2) (.slice A3 T.firsts.length c3)
              have f0 := fr 0
              have f1 := fr 1
              have f2 := fr 2
              have f3 := fr 3
              have f4 := fr 4
              go_simp
              have hbo := Now.blk (pre:=[]) hS
              have hbn := Now.blk (pre:=[]) hS4
              refine hK _ _ (fun _ _ => ⟨hbn.trans hbo.symm,hB4.size⟩) ?_
              clear hK K h2 hS hbo hbn r0 r1 r2 r3 r4 fr f0 f1 f2 f3 f4
              try simp only [Act.put,sqA,sqB,sqC]
              refine wpAnyE_end (by kernel_rfl) fun w5 h5 => ?_
              have hS5 := Now.below hS4 h5
              go_wp2_with fail
              refine bodyPost_ret (v := .agg #[.int .i64 T.segs, .int .i64 T.slots, .slice A1 T.order.length c1, .slice A2 T.lens.length c2, .slice A3 T.firsts.length c3]) ?_ rfl ⟨_,_,_,_,_,_,rfl,Now.drop (pre:=[]) (Now.drop (pre:=[]) hS5)⟩
              exact results_cell_row rfl _ _ _ _ _ (0,0) _ (by simp) (Now.blk (pre:=[_]) hS5) Tryz.underlying71 rfl (by kernel_rfl)
    · refine ⟨_,rfl,?_⟩
      intro w1 h1 K hK
      replace hS := Now.built (pre:=[_,_,_]) (Now.below hS h1) 3 1
      go_simp
      refine hK _ _ (fun _ hg => ⟨Below.heap_alloc _ _ _ hg,by simp⟩) ?_
      clear hK K h1
      try simp only [Act.put,sqA,sqB,sqC]
      generalize w1.alloc (.cells #[] 3) = wc2 at hS ⊢
      generalize w1.heap.size = kb2 at hS ⊢
      clear w1
      refine wpAnyE_fork [7,12] (by kernel_rfl) (by simp) ?_
      refine List.forall_mem_cons.2 ⟨?_,List.forall_mem_cons.2 ⟨?_,List.forall_mem_nil _⟩⟩
      · refine ⟨_,rfl,?_⟩
        intro w1 h1 K hK
        replace hS := Now.below hS h1
        refine step_append_any w1 rfl _ _ 51 rfl 0 3 i0 _ 1 8 Tryz.underlying51 hi0 hz0 hz1 hz2 rfl (by decide) _ _ _ rfl (Now.row (pre:=[_,_]) hS) _ _ T.order.length _ (ints T.order) rfl (rd0.below (Sep.base hS)) (ints_one _) n1 n4 (Nat.zero_le _) ?_
        intro v2 w2 ho hg hn
        rw [Nat.zero_add,List.nil_append] at ho
        obtain ⟨A1,c1,rfl,_⟩ := own_slice ho
        have hbo := Now.blk (pre:=[]) hS
        replace hS := Now.grown (pre:=[_,_]) hS ho hg (hn.imp id fun h => ⟨_,Nat.le_refl _,h⟩)
        have hbn := Now.blk (pre:=[]) hS
        refine hK _ _ (fun _ _ => ⟨hbn.trans hbo.symm,hg.size⟩) ?_
        clear hK K ho hg hn hbo hbn h1
        try simp only [Act.put,sqA,sqB,sqC]
        clear w1
        refine wpAnyE_fork [11,12] (by kernel_rfl) (by simp) ?_
        refine List.forall_mem_cons.2 ⟨?_,List.forall_mem_cons.2 ⟨?_,List.forall_mem_nil _⟩⟩
        · refine ⟨_,rfl,?_⟩
          intro w1 h1 K hK
          replace hS := Now.below hS h1
          refine step_append_any w1 rfl _ _ 51 rfl 0 3 i0 _ 1 8 Tryz.underlying51 hi0 hz0 hz1 hz2 rfl (by decide) _ _ _ rfl (Now.row (pre:=[_,_,_]) hS) _ _ T.lens.length _ (ints T.lens) rfl (rd1.below (Sep.base hS)) (ints_one _) n2 n5 (Nat.zero_le _) ?_
          intro v2 w2 ho hg hn
          rw [Nat.zero_add,List.nil_append] at ho
          obtain ⟨A2,c2,rfl,_⟩ := own_slice ho
          have hbo := Now.blk (pre:=[]) hS
          replace hS := Now.grown (pre:=[_,_,_]) hS ho hg (hn.imp id fun h => ⟨_,Nat.le_refl _,h⟩)
          have hbn := Now.blk (pre:=[]) hS
          refine hK _ _ (fun _ _ => ⟨hbn.trans hbo.symm,hg.size⟩) ?_
          clear hK K ho hg hn hbo hbn h1
          try simp only [Act.put,sqA,sqB,sqC]
          clear w1
          refine wpAnyE_fork [12] (by kernel_rfl) (by simp) ?_
          refine sqM ?_
          · refine ⟨_,rfl,?_⟩
            intro w1 h1 K hK
            replace hS := Now.built (pre:=[_,_,_,_]) (Now.below hS h1) 43 1
            go_simp
            refine hK _ _ (fun _ hg => ⟨Below.heap_alloc _ _ _ hg,by simp⟩) ?_
            clear hK K h1
            try simp only [Act.put,sqA,sqB,sqC]
            generalize w1.alloc (.cells #[] 43) = wc5 at hS ⊢
            generalize w1.heap.size = kb3 at hS ⊢
            clear w1
            refine wpAnyE_fork [15] (by kernel_rfl) (by simp) ?_
            refine sqM ?_
            · refine ⟨_,rfl,?_⟩
              intro w1 h1 K hK
              replace hS := Now.below hS h1
              refine step_append_any w1 rfl _ _ 62 rfl 0 43 j0 _ 1 8 Tryz.underlying62 hj0 hy0 hy1 hy2 rfl (by decide) _ _ _ rfl (Now.row (pre:=[_,_,_,_]) hS) _ _ T.firsts.length _ (u64s T.firsts) rfl (rd2.below (Sep.base hS)) (u64s_one _) n3 n6 (Nat.zero_le _) ?_
              intro v2 w2 ho hg hn
              rw [Nat.zero_add,List.nil_append] at ho
              obtain ⟨A3,c3,rfl,_⟩ := own_slice ho
              have hbo := Now.blk (pre:=[]) hS
              replace hS := Now.grown (pre:=[_,_,_,_]) hS ho hg (hn.imp id fun h => ⟨_,Nat.le_refl _,h⟩)
              have hbn := Now.blk (pre:=[]) hS
              refine hK _ _ (fun _ _ => ⟨hbn.trans hbo.symm,hg.size⟩) ?_
              clear hK K ho hg hn hbo hbn h1
              try simp only [Act.put,sqA,sqB,sqC]
              clear w1
              refine wpAnyE_fork [16] (by kernel_rfl) (by simp) ?_
              refine sqM ?_
              refine ⟨_,rfl,?_⟩
              intro w1 h1 K hK
              replace hS := Now.below hS h1
              go_simp
              refine hK _ _ (fun _ _ => ⟨rfl,Nat.le_refl _⟩) ?_
              clear hK K h1
              try simp only [Act.put,sqA,sqB,sqC]
              refine wpAnyE_fork [17] (by kernel_rfl) (by simp) ?_
              refine sqM ?_
              refine ⟨_,rfl,?_⟩
              intro w2 h2 K hK
              replace hS := Now.below hS h2
              obtain ⟨r0,r1,r2,r3,r4,fr,hS4,hB4⟩ := own8_last hS (Nat.le_succ _) (.int .i64 T.segs) (.int .i64 T.slots) (.slice A1 T.order.length c1) (.slice A2 T.lens.length c2) (.slice A3 T.firsts.length c3)
              have f0 := fr 0
              have f1 := fr 1
              have f2 := fr 2
              have f3 := fr 3
              have f4 := fr 4
              go_simp
              have hbo := Now.blk (pre:=[]) hS
              have hbn := Now.blk (pre:=[]) hS4
              refine hK _ _ (fun _ _ => ⟨hbn.trans hbo.symm,hB4.size⟩) ?_
              clear hK K h2 hS hbo hbn r0 r1 r2 r3 r4 fr f0 f1 f2 f3 f4
              try simp only [Act.put,sqA,sqB,sqC]
              refine wpAnyE_end (by kernel_rfl) fun w5 h5 => ?_
              have hS5 := Now.below hS4 h5
              go_wp2_with fail
              refine bodyPost_ret (v := .agg #[.int .i64 T.segs, .int .i64 T.slots, .slice A1 T.order.length c1, .slice A2 T.lens.length c2, .slice A3 T.firsts.length c3]) ?_ rfl ⟨_,_,_,_,_,_,rfl,Now.drop (pre:=[]) (Now.drop (pre:=[]) hS5)⟩
              exact results_cell_row rfl _ _ _ _ _ (0,0) _ (by simp) (Now.blk (pre:=[_]) hS5) Tryz.underlying71 rfl (by kernel_rfl)
        · refine ⟨_,rfl,?_⟩
          intro w1 h1 K hK
          replace hS := Now.built (pre:=[_,_,_,_]) (Now.below hS h1) 43 1
          go_simp
          refine hK _ _ (fun _ hg => ⟨Below.heap_alloc _ _ _ hg,by simp⟩) ?_
          clear hK K h1
          try simp only [Act.put,sqA,sqB,sqC]
          generalize w1.alloc (.cells #[] 43) = wc4 at hS ⊢
          generalize w1.heap.size = kb3 at hS ⊢
          clear w1
          refine wpAnyE_fork [11] (by kernel_rfl) (by simp) ?_
          refine sqM ?_
          · refine ⟨_,rfl,?_⟩
            intro w1 h1 K hK
            replace hS := Now.below hS h1
            refine step_append_any w1 rfl _ _ 51 rfl 0 3 i0 _ 1 8 Tryz.underlying51 hi0 hz0 hz1 hz2 rfl (by decide) _ _ _ rfl (Now.row (pre:=[_,_,_]) hS) _ _ T.lens.length _ (ints T.lens) rfl (rd1.below (Sep.base hS)) (ints_one _) n2 n5 (Nat.zero_le _) ?_
            intro v2 w2 ho hg hn
            rw [Nat.zero_add,List.nil_append] at ho
            obtain ⟨A2,c2,rfl,_⟩ := own_slice ho
            have hbo := Now.blk (pre:=[]) hS
            replace hS := Now.grown (pre:=[_,_,_]) hS ho hg (hn.imp id fun h => ⟨_,Nat.le_refl _,h⟩)
            have hbn := Now.blk (pre:=[]) hS
            refine hK _ _ (fun _ _ => ⟨hbn.trans hbo.symm,hg.size⟩) ?_
            clear hK K ho hg hn hbo hbn h1
            try simp only [Act.put,sqA,sqB,sqC]
            clear w1
            refine wpAnyE_fork [15] (by kernel_rfl) (by simp) ?_
            refine sqM ?_
            · refine ⟨_,rfl,?_⟩
              intro w1 h1 K hK
              replace hS := Now.below hS h1
              refine step_append_any w1 rfl _ _ 62 rfl 0 43 j0 _ 1 8 Tryz.underlying62 hj0 hy0 hy1 hy2 rfl (by decide) _ _ _ rfl (Now.row (pre:=[_,_,_,_]) hS) _ _ T.firsts.length _ (u64s T.firsts) rfl (rd2.below (Sep.base hS)) (u64s_one _) n3 n6 (Nat.zero_le _) ?_
              intro v2 w2 ho hg hn
              rw [Nat.zero_add,List.nil_append] at ho
              obtain ⟨A3,c3,rfl,_⟩ := own_slice ho
              have hbo := Now.blk (pre:=[]) hS
              replace hS := Now.grown (pre:=[_,_,_,_]) hS ho hg (hn.imp id fun h => ⟨_,Nat.le_refl _,h⟩)
              have hbn := Now.blk (pre:=[]) hS
              refine hK _ _ (fun _ _ => ⟨hbn.trans hbo.symm,hg.size⟩) ?_
              clear hK K ho hg hn hbo hbn h1
              try simp only [Act.put,sqA,sqB,sqC]
              clear w1
              refine wpAnyE_fork [16] (by kernel_rfl) (by simp) ?_
              refine sqM ?_
              refine ⟨_,rfl,?_⟩
              intro w1 h1 K hK
              replace hS := Now.below hS h1
              go_simp
              refine hK _ _ (fun _ _ => ⟨rfl,Nat.le_refl _⟩) ?_
              clear hK K h1
              try simp only [Act.put,sqA,sqB,sqC]
              refine wpAnyE_fork [17] (by kernel_rfl) (by simp) ?_
              refine sqM ?_
              refine ⟨_,rfl,?_⟩
              intro w2 h2 K hK
              replace hS := Now.below hS h2
              obtain ⟨r0,r1,r2,r3,r4,fr,hS4,hB4⟩ := own8_last hS (Nat.le_succ _) (.int .i64 T.segs) (.int .i64 T.slots) (.slice A1 T.order.length c1) (.slice A2 T.lens.length c2) (.slice A3 T.firsts.length c3)
              have f0 := fr 0
              have f1 := fr 1
              have f2 := fr 2
              have f3 := fr 3
              have f4 := fr 4
              go_simp
              have hbo := Now.blk (pre:=[]) hS
              have hbn := Now.blk (pre:=[]) hS4
              refine hK _ _ (fun _ _ => ⟨hbn.trans hbo.symm,hB4.size⟩) ?_
              clear hK K h2 hS hbo hbn r0 r1 r2 r3 r4 fr f0 f1 f2 f3 f4
              try simp only [Act.put,sqA,sqB,sqC]
              refine wpAnyE_end (by kernel_rfl) fun w5 h5 => ?_
              have hS5 := Now.below hS4 h5
              go_wp2_with fail
              refine bodyPost_ret (v := .agg #[.int .i64 T.segs, .int .i64 T.slots, .slice A1 T.order.length c1, .slice A2 T.lens.length c2, .slice A3 T.firsts.length c3]) ?_ rfl ⟨_,_,_,_,_,_,rfl,Now.drop (pre:=[]) (Now.drop (pre:=[]) hS5)⟩
              exact results_cell_row rfl _ _ _ _ _ (0,0) _ (by simp) (Now.blk (pre:=[_]) hS5) Tryz.underlying71 rfl (by kernel_rfl)
      · refine ⟨_,rfl,?_⟩
        intro w1 h1 K hK
        replace hS := Now.built (pre:=[_,_,_,_]) (Now.below hS h1) 43 1
        go_simp
        refine hK _ _ (fun _ hg => ⟨Below.heap_alloc _ _ _ hg,by simp⟩) ?_
        clear hK K h1
        try simp only [Act.put,sqA,sqB,sqC]
        generalize w1.alloc (.cells #[] 43) = wc3 at hS ⊢
        generalize w1.heap.size = kb3 at hS ⊢
        clear w1
        refine wpAnyE_fork [7] (by kernel_rfl) (by simp) ?_
        refine sqM ?_
        · refine ⟨_,rfl,?_⟩
          intro w1 h1 K hK
          replace hS := Now.below hS h1
          refine step_append_any w1 rfl _ _ 51 rfl 0 3 i0 _ 1 8 Tryz.underlying51 hi0 hz0 hz1 hz2 rfl (by decide) _ _ _ rfl (Now.row (pre:=[_,_]) hS) _ _ T.order.length _ (ints T.order) rfl (rd0.below (Sep.base hS)) (ints_one _) n1 n4 (Nat.zero_le _) ?_
          intro v2 w2 ho hg hn
          rw [Nat.zero_add,List.nil_append] at ho
          obtain ⟨A1,c1,rfl,_⟩ := own_slice ho
          have hbo := Now.blk (pre:=[]) hS
          replace hS := Now.grown (pre:=[_,_]) hS ho hg (hn.imp id fun h => ⟨_,Nat.le_refl _,h⟩)
          have hbn := Now.blk (pre:=[]) hS
          refine hK _ _ (fun _ _ => ⟨hbn.trans hbo.symm,hg.size⟩) ?_
          clear hK K ho hg hn hbo hbn h1
          try simp only [Act.put,sqA,sqB,sqC]
          clear w1
          refine wpAnyE_fork [11] (by kernel_rfl) (by simp) ?_
          refine sqM ?_
          · refine ⟨_,rfl,?_⟩
            intro w1 h1 K hK
            replace hS := Now.below hS h1
            refine step_append_any w1 rfl _ _ 51 rfl 0 3 i0 _ 1 8 Tryz.underlying51 hi0 hz0 hz1 hz2 rfl (by decide) _ _ _ rfl (Now.row (pre:=[_,_,_]) hS) _ _ T.lens.length _ (ints T.lens) rfl (rd1.below (Sep.base hS)) (ints_one _) n2 n5 (Nat.zero_le _) ?_
            intro v2 w2 ho hg hn
            rw [Nat.zero_add,List.nil_append] at ho
            obtain ⟨A2,c2,rfl,_⟩ := own_slice ho
            have hbo := Now.blk (pre:=[]) hS
            replace hS := Now.grown (pre:=[_,_,_]) hS ho hg (hn.imp id fun h => ⟨_,Nat.le_refl _,h⟩)
            have hbn := Now.blk (pre:=[]) hS
            refine hK _ _ (fun _ _ => ⟨hbn.trans hbo.symm,hg.size⟩) ?_
            clear hK K ho hg hn hbo hbn h1
            try simp only [Act.put,sqA,sqB,sqC]
            clear w1
            refine wpAnyE_fork [15] (by kernel_rfl) (by simp) ?_
            refine sqM ?_
            · refine ⟨_,rfl,?_⟩
              intro w1 h1 K hK
              replace hS := Now.below hS h1
              refine step_append_any w1 rfl _ _ 62 rfl 0 43 j0 _ 1 8 Tryz.underlying62 hj0 hy0 hy1 hy2 rfl (by decide) _ _ _ rfl (Now.row (pre:=[_,_,_,_]) hS) _ _ T.firsts.length _ (u64s T.firsts) rfl (rd2.below (Sep.base hS)) (u64s_one _) n3 n6 (Nat.zero_le _) ?_
              intro v2 w2 ho hg hn
              rw [Nat.zero_add,List.nil_append] at ho
              obtain ⟨A3,c3,rfl,_⟩ := own_slice ho
              have hbo := Now.blk (pre:=[]) hS
              replace hS := Now.grown (pre:=[_,_,_,_]) hS ho hg (hn.imp id fun h => ⟨_,Nat.le_refl _,h⟩)
              have hbn := Now.blk (pre:=[]) hS
              refine hK _ _ (fun _ _ => ⟨hbn.trans hbo.symm,hg.size⟩) ?_
              clear hK K ho hg hn hbo hbn h1
              try simp only [Act.put,sqA,sqB,sqC]
              clear w1
              refine wpAnyE_fork [16] (by kernel_rfl) (by simp) ?_
              refine sqM ?_
              refine ⟨_,rfl,?_⟩
              intro w1 h1 K hK
              replace hS := Now.below hS h1
              go_simp
              refine hK _ _ (fun _ _ => ⟨rfl,Nat.le_refl _⟩) ?_
              clear hK K h1
              try simp only [Act.put,sqA,sqB,sqC]
              refine wpAnyE_fork [17] (by kernel_rfl) (by simp) ?_
              refine sqM ?_
              refine ⟨_,rfl,?_⟩
              intro w2 h2 K hK
              replace hS := Now.below hS h2
              obtain ⟨r0,r1,r2,r3,r4,fr,hS4,hB4⟩ := own8_last hS (Nat.le_succ _) (.int .i64 T.segs) (.int .i64 T.slots) (.slice A1 T.order.length c1) (.slice A2 T.lens.length c2) (.slice A3 T.firsts.length c3)
              have f0 := fr 0
              have f1 := fr 1
              have f2 := fr 2
              have f3 := fr 3
              have f4 := fr 4
              go_simp
              have hbo := Now.blk (pre:=[]) hS
              have hbn := Now.blk (pre:=[]) hS4
              refine hK _ _ (fun _ _ => ⟨hbn.trans hbo.symm,hB4.size⟩) ?_
              clear hK K h2 hS hbo hbn r0 r1 r2 r3 r4 fr f0 f1 f2 f3 f4
              try simp only [Act.put,sqA,sqB,sqC]
              refine wpAnyE_end (by kernel_rfl) fun w5 h5 => ?_
              have hS5 := Now.below hS4 h5
              go_wp2_with fail
              refine bodyPost_ret (v := .agg #[.int .i64 T.segs, .int .i64 T.slots, .slice A1 T.order.length c1, .slice A2 T.lens.length c2, .slice A3 T.firsts.length c3]) ?_ rfl ⟨_,_,_,_,_,_,rfl,Now.drop (pre:=[]) (Now.drop (pre:=[]) hS5)⟩
              exact results_cell_row rfl _ _ _ _ _ (0,0) _ (by simp) (Now.blk (pre:=[_]) hS5) Tryz.underlying71 rfl (by kernel_rfl)
    · refine ⟨_,rfl,?_⟩
      intro w1 h1 K hK
      replace hS := Now.built (pre:=[_,_,_,_]) (Now.below hS h1) 43 1
      go_simp
      refine hK _ _ (fun _ hg => ⟨Below.heap_alloc _ _ _ hg,by simp⟩) ?_
      clear hK K h1
      try simp only [Act.put,sqA,sqB,sqC]
      generalize w1.alloc (.cells #[] 43) = wc2 at hS ⊢
      generalize w1.heap.size = kb3 at hS ⊢
      clear w1
      refine wpAnyE_fork [7,8] (by kernel_rfl) (by simp) ?_
      refine List.forall_mem_cons.2 ⟨?_,List.forall_mem_cons.2 ⟨?_,List.forall_mem_nil _⟩⟩
      · refine ⟨_,rfl,?_⟩
        intro w1 h1 K hK
        replace hS := Now.below hS h1
        refine step_append_any w1 rfl _ _ 51 rfl 0 3 i0 _ 1 8 Tryz.underlying51 hi0 hz0 hz1 hz2 rfl (by decide) _ _ _ rfl (Now.row (pre:=[_,_]) hS) _ _ T.order.length _ (ints T.order) rfl (rd0.below (Sep.base hS)) (ints_one _) n1 n4 (Nat.zero_le _) ?_
        intro v2 w2 ho hg hn
        rw [Nat.zero_add,List.nil_append] at ho
        obtain ⟨A1,c1,rfl,_⟩ := own_slice ho
        have hbo := Now.blk (pre:=[]) hS
        replace hS := Now.grown (pre:=[_,_]) hS ho hg (hn.imp id fun h => ⟨_,Nat.le_refl _,h⟩)
        have hbn := Now.blk (pre:=[]) hS
        refine hK _ _ (fun _ _ => ⟨hbn.trans hbo.symm,hg.size⟩) ?_
        clear hK K ho hg hn hbo hbn h1
        try simp only [Act.put,sqA,sqB,sqC]
        clear w1
        refine wpAnyE_fork [8] (by kernel_rfl) (by simp) ?_
        refine sqM ?_
        · refine ⟨_,rfl,?_⟩
          intro w1 h1 K hK
          replace hS := Now.built (pre:=[_,_,_]) (Now.below hS h1) 3 1
          go_simp
          refine hK _ _ (fun _ hg => ⟨Below.heap_alloc _ _ _ hg,by simp⟩) ?_
          clear hK K h1
          try simp only [Act.put,sqA,sqB,sqC]
          generalize w1.alloc (.cells #[] 3) = wc4 at hS ⊢
          generalize w1.heap.size = kb2 at hS ⊢
          clear w1
          refine wpAnyE_fork [11] (by kernel_rfl) (by simp) ?_
          refine sqM ?_
          · refine ⟨_,rfl,?_⟩
            intro w1 h1 K hK
            replace hS := Now.below hS h1
            refine step_append_any w1 rfl _ _ 51 rfl 0 3 i0 _ 1 8 Tryz.underlying51 hi0 hz0 hz1 hz2 rfl (by decide) _ _ _ rfl (Now.row (pre:=[_,_,_]) hS) _ _ T.lens.length _ (ints T.lens) rfl (rd1.below (Sep.base hS)) (ints_one _) n2 n5 (Nat.zero_le _) ?_
            intro v2 w2 ho hg hn
            rw [Nat.zero_add,List.nil_append] at ho
            obtain ⟨A2,c2,rfl,_⟩ := own_slice ho
            have hbo := Now.blk (pre:=[]) hS
            replace hS := Now.grown (pre:=[_,_,_]) hS ho hg (hn.imp id fun h => ⟨_,Nat.le_refl _,h⟩)
            have hbn := Now.blk (pre:=[]) hS
            refine hK _ _ (fun _ _ => ⟨hbn.trans hbo.symm,hg.size⟩) ?_
            clear hK K ho hg hn hbo hbn h1
            try simp only [Act.put,sqA,sqB,sqC]
            clear w1
            refine wpAnyE_fork [15] (by kernel_rfl) (by simp) ?_
            refine sqM ?_
            · refine ⟨_,rfl,?_⟩
              intro w1 h1 K hK
              replace hS := Now.below hS h1
              refine step_append_any w1 rfl _ _ 62 rfl 0 43 j0 _ 1 8 Tryz.underlying62 hj0 hy0 hy1 hy2 rfl (by decide) _ _ _ rfl (Now.row (pre:=[_,_,_,_]) hS) _ _ T.firsts.length _ (u64s T.firsts) rfl (rd2.below (Sep.base hS)) (u64s_one _) n3 n6 (Nat.zero_le _) ?_
              intro v2 w2 ho hg hn
              rw [Nat.zero_add,List.nil_append] at ho
              obtain ⟨A3,c3,rfl,_⟩ := own_slice ho
              have hbo := Now.blk (pre:=[]) hS
              replace hS := Now.grown (pre:=[_,_,_,_]) hS ho hg (hn.imp id fun h => ⟨_,Nat.le_refl _,h⟩)
              have hbn := Now.blk (pre:=[]) hS
              refine hK _ _ (fun _ _ => ⟨hbn.trans hbo.symm,hg.size⟩) ?_
              clear hK K ho hg hn hbo hbn h1
              try simp only [Act.put,sqA,sqB,sqC]
              clear w1
              refine wpAnyE_fork [16] (by kernel_rfl) (by simp) ?_
              refine sqM ?_
              refine ⟨_,rfl,?_⟩
              intro w1 h1 K hK
              replace hS := Now.below hS h1
              go_simp
              refine hK _ _ (fun _ _ => ⟨rfl,Nat.le_refl _⟩) ?_
              clear hK K h1
              try simp only [Act.put,sqA,sqB,sqC]
              refine wpAnyE_fork [17] (by kernel_rfl) (by simp) ?_
              refine sqM ?_
              refine ⟨_,rfl,?_⟩
              intro w2 h2 K hK
              replace hS := Now.below hS h2
              obtain ⟨r0,r1,r2,r3,r4,fr,hS4,hB4⟩ := own8_last hS (Nat.le_succ _) (.int .i64 T.segs) (.int .i64 T.slots) (.slice A1 T.order.length c1) (.slice A2 T.lens.length c2) (.slice A3 T.firsts.length c3)
              have f0 := fr 0
              have f1 := fr 1
              have f2 := fr 2
              have f3 := fr 3
              have f4 := fr 4
              go_simp
              have hbo := Now.blk (pre:=[]) hS
              have hbn := Now.blk (pre:=[]) hS4
              refine hK _ _ (fun _ _ => ⟨hbn.trans hbo.symm,hB4.size⟩) ?_
              clear hK K h2 hS hbo hbn r0 r1 r2 r3 r4 fr f0 f1 f2 f3 f4
              try simp only [Act.put,sqA,sqB,sqC]
              refine wpAnyE_end (by kernel_rfl) fun w5 h5 => ?_
              have hS5 := Now.below hS4 h5
              go_wp2_with fail
              refine bodyPost_ret (v := .agg #[.int .i64 T.segs, .int .i64 T.slots, .slice A1 T.order.length c1, .slice A2 T.lens.length c2, .slice A3 T.firsts.length c3]) ?_ rfl ⟨_,_,_,_,_,_,rfl,Now.drop (pre:=[]) (Now.drop (pre:=[]) hS5)⟩
              exact results_cell_row rfl _ _ _ _ _ (0,0) _ (by simp) (Now.blk (pre:=[_]) hS5) Tryz.underlying71 rfl (by kernel_rfl)
      · refine ⟨_,rfl,?_⟩
        intro w1 h1 K hK
        replace hS := Now.built (pre:=[_,_,_]) (Now.below hS h1) 3 1
        go_simp
        refine hK _ _ (fun _ hg => ⟨Below.heap_alloc _ _ _ hg,by simp⟩) ?_
        clear hK K h1
        try simp only [Act.put,sqA,sqB,sqC]
        generalize w1.alloc (.cells #[] 3) = wc3 at hS ⊢
        generalize w1.heap.size = kb2 at hS ⊢
        clear w1
        refine wpAnyE_fork [7] (by kernel_rfl) (by simp) ?_
        refine sqM ?_
        · refine ⟨_,rfl,?_⟩
          intro w1 h1 K hK
          replace hS := Now.below hS h1
          refine step_append_any w1 rfl _ _ 51 rfl 0 3 i0 _ 1 8 Tryz.underlying51 hi0 hz0 hz1 hz2 rfl (by decide) _ _ _ rfl (Now.row (pre:=[_,_]) hS) _ _ T.order.length _ (ints T.order) rfl (rd0.below (Sep.base hS)) (ints_one _) n1 n4 (Nat.zero_le _) ?_
          intro v2 w2 ho hg hn
          rw [Nat.zero_add,List.nil_append] at ho
          obtain ⟨A1,c1,rfl,_⟩ := own_slice ho
          have hbo := Now.blk (pre:=[]) hS
          replace hS := Now.grown (pre:=[_,_]) hS ho hg (hn.imp id fun h => ⟨_,Nat.le_refl _,h⟩)
          have hbn := Now.blk (pre:=[]) hS
          refine hK _ _ (fun _ _ => ⟨hbn.trans hbo.symm,hg.size⟩) ?_
          clear hK K ho hg hn hbo hbn h1
          try simp only [Act.put,sqA,sqB,sqC]
          clear w1
          refine wpAnyE_fork [11] (by kernel_rfl) (by simp) ?_
          refine sqM ?_
          · refine ⟨_,rfl,?_⟩
            intro w1 h1 K hK
            replace hS := Now.below hS h1
            refine step_append_any w1 rfl _ _ 51 rfl 0 3 i0 _ 1 8 Tryz.underlying51 hi0 hz0 hz1 hz2 rfl (by decide) _ _ _ rfl (Now.row (pre:=[_,_,_]) hS) _ _ T.lens.length _ (ints T.lens) rfl (rd1.below (Sep.base hS)) (ints_one _) n2 n5 (Nat.zero_le _) ?_
            intro v2 w2 ho hg hn
            rw [Nat.zero_add,List.nil_append] at ho
            obtain ⟨A2,c2,rfl,_⟩ := own_slice ho
            have hbo := Now.blk (pre:=[]) hS
            replace hS := Now.grown (pre:=[_,_,_]) hS ho hg (hn.imp id fun h => ⟨_,Nat.le_refl _,h⟩)
            have hbn := Now.blk (pre:=[]) hS
            refine hK _ _ (fun _ _ => ⟨hbn.trans hbo.symm,hg.size⟩) ?_
            clear hK K ho hg hn hbo hbn h1
            try simp only [Act.put,sqA,sqB,sqC]
            clear w1
            refine wpAnyE_fork [15] (by kernel_rfl) (by simp) ?_
            refine sqM ?_
            · refine ⟨_,rfl,?_⟩
              intro w1 h1 K hK
              replace hS := Now.below hS h1
              refine step_append_any w1 rfl _ _ 62 rfl 0 43 j0 _ 1 8 Tryz.underlying62 hj0 hy0 hy1 hy2 rfl (by decide) _ _ _ rfl (Now.row (pre:=[_,_,_,_]) hS) _ _ T.firsts.length _ (u64s T.firsts) rfl (rd2.below (Sep.base hS)) (u64s_one _) n3 n6 (Nat.zero_le _) ?_
              intro v2 w2 ho hg hn
              rw [Nat.zero_add,List.nil_append] at ho
              obtain ⟨A3,c3,rfl,_⟩ := own_slice ho
              have hbo := Now.blk (pre:=[]) hS
              replace hS := Now.grown (pre:=[_,_,_,_]) hS ho hg (hn.imp id fun h => ⟨_,Nat.le_refl _,h⟩)
              have hbn := Now.blk (pre:=[]) hS
              refine hK _ _ (fun _ _ => ⟨hbn.trans hbo.symm,hg.size⟩) ?_
              clear hK K ho hg hn hbo hbn h1
              try simp only [Act.put,sqA,sqB,sqC]
              clear w1
              refine wpAnyE_fork [16] (by kernel_rfl) (by simp) ?_
              refine sqM ?_
              refine ⟨_,rfl,?_⟩
              intro w1 h1 K hK
              replace hS := Now.below hS h1
              go_simp
              refine hK _ _ (fun _ _ => ⟨rfl,Nat.le_refl _⟩) ?_
              clear hK K h1
              try simp only [Act.put,sqA,sqB,sqC]
              refine wpAnyE_fork [17] (by kernel_rfl) (by simp) ?_
              refine sqM ?_
              refine ⟨_,rfl,?_⟩
              intro w2 h2 K hK
              replace hS := Now.below hS h2
              obtain ⟨r0,r1,r2,r3,r4,fr,hS4,hB4⟩ := own8_last hS (Nat.le_succ _) (.int .i64 T.segs) (.int .i64 T.slots) (.slice A1 T.order.length c1) (.slice A2 T.lens.length c2) (.slice A3 T.firsts.length c3)
              have f0 := fr 0
              have f1 := fr 1
              have f2 := fr 2
              have f3 := fr 3
              have f4 := fr 4
              go_simp
              have hbo := Now.blk (pre:=[]) hS
              have hbn := Now.blk (pre:=[]) hS4
              refine hK _ _ (fun _ _ => ⟨hbn.trans hbo.symm,hB4.size⟩) ?_
              clear hK K h2 hS hbo hbn r0 r1 r2 r3 r4 fr f0 f1 f2 f3 f4
              try simp only [Act.put,sqA,sqB,sqC]
              refine wpAnyE_end (by kernel_rfl) fun w5 h5 => ?_
              have hS5 := Now.below hS4 h5
              go_wp2_with fail
              refine bodyPost_ret (v := .agg #[.int .i64 T.segs, .int .i64 T.slots, .slice A1 T.order.length c1, .slice A2 T.lens.length c2, .slice A3 T.firsts.length c3]) ?_ rfl ⟨_,_,_,_,_,_,rfl,Now.drop (pre:=[]) (Now.drop (pre:=[]) hS5)⟩
              exact results_cell_row rfl _ _ _ _ _ (0,0) _ (by simp) (Now.blk (pre:=[_]) hS5) Tryz.underlying71 rfl (by kernel_rfl)
  · refine ⟨_,rfl,?_⟩
    intro w1 h1 K hK
    replace hS := Now.built (pre:=[_,_,_]) (Now.below hS h1) 3 1
    go_simp
    refine hK _ _ (fun _ hg => ⟨Below.heap_alloc _ _ _ hg,by simp⟩) ?_
    clear hK K h1
    try simp only [Act.put,sqA,sqB,sqC]
    generalize w1.alloc (.cells #[] 3) = wc1 at hS ⊢
    generalize w1.heap.size = kb2 at hS ⊢
    clear w1
    refine wpAnyE_fork [4,12] (by kernel_rfl) (by simp) ?_
    refine List.forall_mem_cons.2 ⟨?_,List.forall_mem_cons.2 ⟨?_,List.forall_mem_nil _⟩⟩
    · refine ⟨_,rfl,?_⟩
      intro w1 h1 K hK
      replace hS := Now.built (pre:=[_,_]) (Now.below hS h1) 3 1
      go_simp
      refine hK _ _ (fun _ hg => ⟨Below.heap_alloc _ _ _ hg,by simp⟩) ?_
      clear hK K h1
      try simp only [Act.put,sqA,sqB,sqC]
      generalize w1.alloc (.cells #[] 3) = wc2 at hS ⊢
      generalize w1.heap.size = kb1 at hS ⊢
      clear w1
      refine wpAnyE_fork [7,12] (by kernel_rfl) (by simp) ?_
      refine List.forall_mem_cons.2 ⟨?_,List.forall_mem_cons.2 ⟨?_,List.forall_mem_nil _⟩⟩
      · refine ⟨_,rfl,?_⟩
        intro w1 h1 K hK
        replace hS := Now.below hS h1
        refine step_append_any w1 rfl _ _ 51 rfl 0 3 i0 _ 1 8 Tryz.underlying51 hi0 hz0 hz1 hz2 rfl (by decide) _ _ _ rfl (Now.row (pre:=[_,_]) hS) _ _ T.order.length _ (ints T.order) rfl (rd0.below (Sep.base hS)) (ints_one _) n1 n4 (Nat.zero_le _) ?_
        intro v2 w2 ho hg hn
        rw [Nat.zero_add,List.nil_append] at ho
        obtain ⟨A1,c1,rfl,_⟩ := own_slice ho
        have hbo := Now.blk (pre:=[]) hS
        replace hS := Now.grown (pre:=[_,_]) hS ho hg (hn.imp id fun h => ⟨_,Nat.le_refl _,h⟩)
        have hbn := Now.blk (pre:=[]) hS
        refine hK _ _ (fun _ _ => ⟨hbn.trans hbo.symm,hg.size⟩) ?_
        clear hK K ho hg hn hbo hbn h1
        try simp only [Act.put,sqA,sqB,sqC]
        clear w1
        refine wpAnyE_fork [11,12] (by kernel_rfl) (by simp) ?_
        refine List.forall_mem_cons.2 ⟨?_,List.forall_mem_cons.2 ⟨?_,List.forall_mem_nil _⟩⟩
        · refine ⟨_,rfl,?_⟩
          intro w1 h1 K hK
          replace hS := Now.below hS h1
          refine step_append_any w1 rfl _ _ 51 rfl 0 3 i0 _ 1 8 Tryz.underlying51 hi0 hz0 hz1 hz2 rfl (by decide) _ _ _ rfl (Now.row (pre:=[_,_,_]) hS) _ _ T.lens.length _ (ints T.lens) rfl (rd1.below (Sep.base hS)) (ints_one _) n2 n5 (Nat.zero_le _) ?_
          intro v2 w2 ho hg hn
          rw [Nat.zero_add,List.nil_append] at ho
          obtain ⟨A2,c2,rfl,_⟩ := own_slice ho
          have hbo := Now.blk (pre:=[]) hS
          replace hS := Now.grown (pre:=[_,_,_]) hS ho hg (hn.imp id fun h => ⟨_,Nat.le_refl _,h⟩)
          have hbn := Now.blk (pre:=[]) hS
          refine hK _ _ (fun _ _ => ⟨hbn.trans hbo.symm,hg.size⟩) ?_
          clear hK K ho hg hn hbo hbn h1
          try simp only [Act.put,sqA,sqB,sqC]
          clear w1
          refine wpAnyE_fork [12] (by kernel_rfl) (by simp) ?_
          refine sqM ?_
          · refine ⟨_,rfl,?_⟩
            intro w1 h1 K hK
            replace hS := Now.built (pre:=[_,_,_,_]) (Now.below hS h1) 43 1
            go_simp
            refine hK _ _ (fun _ hg => ⟨Below.heap_alloc _ _ _ hg,by simp⟩) ?_
            clear hK K h1
            try simp only [Act.put,sqA,sqB,sqC]
            generalize w1.alloc (.cells #[] 43) = wc5 at hS ⊢
            generalize w1.heap.size = kb3 at hS ⊢
            clear w1
            refine wpAnyE_fork [15] (by kernel_rfl) (by simp) ?_
            refine sqM ?_
            · refine ⟨_,rfl,?_⟩
              intro w1 h1 K hK
              replace hS := Now.below hS h1
              refine step_append_any w1 rfl _ _ 62 rfl 0 43 j0 _ 1 8 Tryz.underlying62 hj0 hy0 hy1 hy2 rfl (by decide) _ _ _ rfl (Now.row (pre:=[_,_,_,_]) hS) _ _ T.firsts.length _ (u64s T.firsts) rfl (rd2.below (Sep.base hS)) (u64s_one _) n3 n6 (Nat.zero_le _) ?_
              intro v2 w2 ho hg hn
              rw [Nat.zero_add,List.nil_append] at ho
              obtain ⟨A3,c3,rfl,_⟩ := own_slice ho
              have hbo := Now.blk (pre:=[]) hS
              replace hS := Now.grown (pre:=[_,_,_,_]) hS ho hg (hn.imp id fun h => ⟨_,Nat.le_refl _,h⟩)
              have hbn := Now.blk (pre:=[]) hS
              refine hK _ _ (fun _ _ => ⟨hbn.trans hbo.symm,hg.size⟩) ?_
              clear hK K ho hg hn hbo hbn h1
              try simp only [Act.put,sqA,sqB,sqC]
              clear w1
              refine wpAnyE_fork [16] (by kernel_rfl) (by simp) ?_
              refine sqM ?_
              refine ⟨_,rfl,?_⟩
              intro w1 h1 K hK
              replace hS := Now.below hS h1
              go_simp
              refine hK _ _ (fun _ _ => ⟨rfl,Nat.le_refl _⟩) ?_
              clear hK K h1
              try simp only [Act.put,sqA,sqB,sqC]
              refine wpAnyE_fork [17] (by kernel_rfl) (by simp) ?_
              refine sqM ?_
              refine ⟨_,rfl,?_⟩
              intro w2 h2 K hK
              replace hS := Now.below hS h2
              obtain ⟨r0,r1,r2,r3,r4,fr,hS4,hB4⟩ := own8_last hS (Nat.le_succ _) (.int .i64 T.segs) (.int .i64 T.slots) (.slice A1 T.order.length c1) (.slice A2 T.lens.length c2) (.slice A3 T.firsts.length c3)
              have f0 := fr 0
              have f1 := fr 1
              have f2 := fr 2
              have f3 := fr 3
              have f4 := fr 4
              go_simp
              have hbo := Now.blk (pre:=[]) hS
              have hbn := Now.blk (pre:=[]) hS4
              refine hK _ _ (fun _ _ => ⟨hbn.trans hbo.symm,hB4.size⟩) ?_
              clear hK K h2 hS hbo hbn r0 r1 r2 r3 r4 fr f0 f1 f2 f3 f4
              try simp only [Act.put,sqA,sqB,sqC]
              refine wpAnyE_end (by kernel_rfl) fun w5 h5 => ?_
              have hS5 := Now.below hS4 h5
              go_wp2_with fail
              refine bodyPost_ret (v := .agg #[.int .i64 T.segs, .int .i64 T.slots, .slice A1 T.order.length c1, .slice A2 T.lens.length c2, .slice A3 T.firsts.length c3]) ?_ rfl ⟨_,_,_,_,_,_,rfl,Now.drop (pre:=[]) (Now.drop (pre:=[]) hS5)⟩
              exact results_cell_row rfl _ _ _ _ _ (0,0) _ (by simp) (Now.blk (pre:=[_]) hS5) Tryz.underlying71 rfl (by kernel_rfl)
        · refine ⟨_,rfl,?_⟩
          intro w1 h1 K hK
          replace hS := Now.built (pre:=[_,_,_,_]) (Now.below hS h1) 43 1
          go_simp
          refine hK _ _ (fun _ hg => ⟨Below.heap_alloc _ _ _ hg,by simp⟩) ?_
          clear hK K h1
          try simp only [Act.put,sqA,sqB,sqC]
          generalize w1.alloc (.cells #[] 43) = wc4 at hS ⊢
          generalize w1.heap.size = kb3 at hS ⊢
          clear w1
          refine wpAnyE_fork [11] (by kernel_rfl) (by simp) ?_
          refine sqM ?_
          · refine ⟨_,rfl,?_⟩
            intro w1 h1 K hK
            replace hS := Now.below hS h1
            refine step_append_any w1 rfl _ _ 51 rfl 0 3 i0 _ 1 8 Tryz.underlying51 hi0 hz0 hz1 hz2 rfl (by decide) _ _ _ rfl (Now.row (pre:=[_,_,_]) hS) _ _ T.lens.length _ (ints T.lens) rfl (rd1.below (Sep.base hS)) (ints_one _) n2 n5 (Nat.zero_le _) ?_
            intro v2 w2 ho hg hn
            rw [Nat.zero_add,List.nil_append] at ho
            obtain ⟨A2,c2,rfl,_⟩ := own_slice ho
            have hbo := Now.blk (pre:=[]) hS
            replace hS := Now.grown (pre:=[_,_,_]) hS ho hg (hn.imp id fun h => ⟨_,Nat.le_refl _,h⟩)
            have hbn := Now.blk (pre:=[]) hS
            refine hK _ _ (fun _ _ => ⟨hbn.trans hbo.symm,hg.size⟩) ?_
            clear hK K ho hg hn hbo hbn h1
            try simp only [Act.put,sqA,sqB,sqC]
            clear w1
            refine wpAnyE_fork [15] (by kernel_rfl) (by simp) ?_
            refine sqM ?_
            · refine ⟨_,rfl,?_⟩
              intro w1 h1 K hK
              replace hS := Now.below hS h1
              refine step_append_any w1 rfl _ _ 62 rfl 0 43 j0 _ 1 8 Tryz.underlying62 hj0 hy0 hy1 hy2 rfl (by decide) _ _ _ rfl (Now.row (pre:=[_,_,_,_]) hS) _ _ T.firsts.length _ (u64s T.firsts) rfl (rd2.below (Sep.base hS)) (u64s_one _) n3 n6 (Nat.zero_le _) ?_
              intro v2 w2 ho hg hn
              rw [Nat.zero_add,List.nil_append] at ho
              obtain ⟨A3,c3,rfl,_⟩ := own_slice ho
              have hbo := Now.blk (pre:=[]) hS
              replace hS := Now.grown (pre:=[_,_,_,_]) hS ho hg (hn.imp id fun h => ⟨_,Nat.le_refl _,h⟩)
              have hbn := Now.blk (pre:=[]) hS
              refine hK _ _ (fun _ _ => ⟨hbn.trans hbo.symm,hg.size⟩) ?_
              clear hK K ho hg hn hbo hbn h1
              try simp only [Act.put,sqA,sqB,sqC]
              clear w1
              refine wpAnyE_fork [16] (by kernel_rfl) (by simp) ?_
              refine sqM ?_
              refine ⟨_,rfl,?_⟩
              intro w1 h1 K hK
              replace hS := Now.below hS h1
              go_simp
              refine hK _ _ (fun _ _ => ⟨rfl,Nat.le_refl _⟩) ?_
              clear hK K h1
              try simp only [Act.put,sqA,sqB,sqC]
              refine wpAnyE_fork [17] (by kernel_rfl) (by simp) ?_
              refine sqM ?_
              refine ⟨_,rfl,?_⟩
              intro w2 h2 K hK
              replace hS := Now.below hS h2
              obtain ⟨r0,r1,r2,r3,r4,fr,hS4,hB4⟩ := own8_last hS (Nat.le_succ _) (.int .i64 T.segs) (.int .i64 T.slots) (.slice A1 T.order.length c1) (.slice A2 T.lens.length c2) (.slice A3 T.firsts.length c3)
              have f0 := fr 0
              have f1 := fr 1
              have f2 := fr 2
              have f3 := fr 3
              have f4 := fr 4
              go_simp
              have hbo := Now.blk (pre:=[]) hS
              have hbn := Now.blk (pre:=[]) hS4
              refine hK _ _ (fun _ _ => ⟨hbn.trans hbo.symm,hB4.size⟩) ?_
              clear hK K h2 hS hbo hbn r0 r1 r2 r3 r4 fr f0 f1 f2 f3 f4
              try simp only [Act.put,sqA,sqB,sqC]
              refine wpAnyE_end (by kernel_rfl) fun w5 h5 => ?_
              have hS5 := Now.below hS4 h5
              go_wp2_with fail
              refine bodyPost_ret (v := .agg #[.int .i64 T.segs, .int .i64 T.slots, .slice A1 T.order.length c1, .slice A2 T.lens.length c2, .slice A3 T.firsts.length c3]) ?_ rfl ⟨_,_,_,_,_,_,rfl,Now.drop (pre:=[]) (Now.drop (pre:=[]) hS5)⟩
              exact results_cell_row rfl _ _ _ _ _ (0,0) _ (by simp) (Now.blk (pre:=[_]) hS5) Tryz.underlying71 rfl (by kernel_rfl)
      · refine ⟨_,rfl,?_⟩
        intro w1 h1 K hK
        replace hS := Now.built (pre:=[_,_,_,_]) (Now.below hS h1) 43 1
        go_simp
        refine hK _ _ (fun _ hg => ⟨Below.heap_alloc _ _ _ hg,by simp⟩) ?_
        clear hK K h1
        try simp only [Act.put,sqA,sqB,sqC]
        generalize w1.alloc (.cells #[] 43) = wc3 at hS ⊢
        generalize w1.heap.size = kb3 at hS ⊢
        clear w1
        refine wpAnyE_fork [7] (by kernel_rfl) (by simp) ?_
        refine sqM ?_
        · refine ⟨_,rfl,?_⟩
          intro w1 h1 K hK
          replace hS := Now.below hS h1
          refine step_append_any w1 rfl _ _ 51 rfl 0 3 i0 _ 1 8 Tryz.underlying51 hi0 hz0 hz1 hz2 rfl (by decide) _ _ _ rfl (Now.row (pre:=[_,_]) hS) _ _ T.order.length _ (ints T.order) rfl (rd0.below (Sep.base hS)) (ints_one _) n1 n4 (Nat.zero_le _) ?_
          intro v2 w2 ho hg hn
          rw [Nat.zero_add,List.nil_append] at ho
          obtain ⟨A1,c1,rfl,_⟩ := own_slice ho
          have hbo := Now.blk (pre:=[]) hS
          replace hS := Now.grown (pre:=[_,_]) hS ho hg (hn.imp id fun h => ⟨_,Nat.le_refl _,h⟩)
          have hbn := Now.blk (pre:=[]) hS
          refine hK _ _ (fun _ _ => ⟨hbn.trans hbo.symm,hg.size⟩) ?_
          clear hK K ho hg hn hbo hbn h1
          try simp only [Act.put,sqA,sqB,sqC]
          clear w1
          refine wpAnyE_fork [11] (by kernel_rfl) (by simp) ?_
          refine sqM ?_
          · refine ⟨_,rfl,?_⟩
            intro w1 h1 K hK
            replace hS := Now.below hS h1
            refine step_append_any w1 rfl _ _ 51 rfl 0 3 i0 _ 1 8 Tryz.underlying51 hi0 hz0 hz1 hz2 rfl (by decide) _ _ _ rfl (Now.row (pre:=[_,_,_]) hS) _ _ T.lens.length _ (ints T.lens) rfl (rd1.below (Sep.base hS)) (ints_one _) n2 n5 (Nat.zero_le _) ?_
            intro v2 w2 ho hg hn
            rw [Nat.zero_add,List.nil_append] at ho
            obtain ⟨A2,c2,rfl,_⟩ := own_slice ho
            have hbo := Now.blk (pre:=[]) hS
            replace hS := Now.grown (pre:=[_,_,_]) hS ho hg (hn.imp id fun h => ⟨_,Nat.le_refl _,h⟩)
            have hbn := Now.blk (pre:=[]) hS
            refine hK _ _ (fun _ _ => ⟨hbn.trans hbo.symm,hg.size⟩) ?_
            clear hK K ho hg hn hbo hbn h1
            try simp only [Act.put,sqA,sqB,sqC]
            clear w1
            refine wpAnyE_fork [15] (by kernel_rfl) (by simp) ?_
            refine sqM ?_
            · refine ⟨_,rfl,?_⟩
              intro w1 h1 K hK
              replace hS := Now.below hS h1
              refine step_append_any w1 rfl _ _ 62 rfl 0 43 j0 _ 1 8 Tryz.underlying62 hj0 hy0 hy1 hy2 rfl (by decide) _ _ _ rfl (Now.row (pre:=[_,_,_,_]) hS) _ _ T.firsts.length _ (u64s T.firsts) rfl (rd2.below (Sep.base hS)) (u64s_one _) n3 n6 (Nat.zero_le _) ?_
              intro v2 w2 ho hg hn
              rw [Nat.zero_add,List.nil_append] at ho
              obtain ⟨A3,c3,rfl,_⟩ := own_slice ho
              have hbo := Now.blk (pre:=[]) hS
              replace hS := Now.grown (pre:=[_,_,_,_]) hS ho hg (hn.imp id fun h => ⟨_,Nat.le_refl _,h⟩)
              have hbn := Now.blk (pre:=[]) hS
              refine hK _ _ (fun _ _ => ⟨hbn.trans hbo.symm,hg.size⟩) ?_
              clear hK K ho hg hn hbo hbn h1
              try simp only [Act.put,sqA,sqB,sqC]
              clear w1
              refine wpAnyE_fork [16] (by kernel_rfl) (by simp) ?_
              refine sqM ?_
              refine ⟨_,rfl,?_⟩
              intro w1 h1 K hK
              replace hS := Now.below hS h1
              go_simp
              refine hK _ _ (fun _ _ => ⟨rfl,Nat.le_refl _⟩) ?_
              clear hK K h1
              try simp only [Act.put,sqA,sqB,sqC]
              refine wpAnyE_fork [17] (by kernel_rfl) (by simp) ?_
              refine sqM ?_
              refine ⟨_,rfl,?_⟩
              intro w2 h2 K hK
              replace hS := Now.below hS h2
              obtain ⟨r0,r1,r2,r3,r4,fr,hS4,hB4⟩ := own8_last hS (Nat.le_succ _) (.int .i64 T.segs) (.int .i64 T.slots) (.slice A1 T.order.length c1) (.slice A2 T.lens.length c2) (.slice A3 T.firsts.length c3)
              have f0 := fr 0
              have f1 := fr 1
              have f2 := fr 2
              have f3 := fr 3
              have f4 := fr 4
              go_simp
              have hbo := Now.blk (pre:=[]) hS
              have hbn := Now.blk (pre:=[]) hS4
              refine hK _ _ (fun _ _ => ⟨hbn.trans hbo.symm,hB4.size⟩) ?_
              clear hK K h2 hS hbo hbn r0 r1 r2 r3 r4 fr f0 f1 f2 f3 f4
              try simp only [Act.put,sqA,sqB,sqC]
              refine wpAnyE_end (by kernel_rfl) fun w5 h5 => ?_
              have hS5 := Now.below hS4 h5
              go_wp2_with fail
              refine bodyPost_ret (v := .agg #[.int .i64 T.segs, .int .i64 T.slots, .slice A1 T.order.length c1, .slice A2 T.lens.length c2, .slice A3 T.firsts.length c3]) ?_ rfl ⟨_,_,_,_,_,_,rfl,Now.drop (pre:=[]) (Now.drop (pre:=[]) hS5)⟩
              exact results_cell_row rfl _ _ _ _ _ (0,0) _ (by simp) (Now.blk (pre:=[_]) hS5) Tryz.underlying71 rfl (by kernel_rfl)
    · refine ⟨_,rfl,?_⟩
      intro w1 h1 K hK
      replace hS := Now.built (pre:=[_,_,_,_]) (Now.below hS h1) 43 1
      go_simp
      refine hK _ _ (fun _ hg => ⟨Below.heap_alloc _ _ _ hg,by simp⟩) ?_
      clear hK K h1
      try simp only [Act.put,sqA,sqB,sqC]
      generalize w1.alloc (.cells #[] 43) = wc2 at hS ⊢
      generalize w1.heap.size = kb3 at hS ⊢
      clear w1
      refine wpAnyE_fork [4] (by kernel_rfl) (by simp) ?_
      refine sqM ?_
      · refine ⟨_,rfl,?_⟩
        intro w1 h1 K hK
        replace hS := Now.built (pre:=[_,_]) (Now.below hS h1) 3 1
        go_simp
        refine hK _ _ (fun _ hg => ⟨Below.heap_alloc _ _ _ hg,by simp⟩) ?_
        clear hK K h1
        try simp only [Act.put,sqA,sqB,sqC]
        generalize w1.alloc (.cells #[] 3) = wc3 at hS ⊢
        generalize w1.heap.size = kb1 at hS ⊢
        clear w1
        refine wpAnyE_fork [7] (by kernel_rfl) (by simp) ?_
        refine sqM ?_
        · refine ⟨_,rfl,?_⟩
          intro w1 h1 K hK
          replace hS := Now.below hS h1
          refine step_append_any w1 rfl _ _ 51 rfl 0 3 i0 _ 1 8 Tryz.underlying51 hi0 hz0 hz1 hz2 rfl (by decide) _ _ _ rfl (Now.row (pre:=[_,_]) hS) _ _ T.order.length _ (ints T.order) rfl (rd0.below (Sep.base hS)) (ints_one _) n1 n4 (Nat.zero_le _) ?_
          intro v2 w2 ho hg hn
          rw [Nat.zero_add,List.nil_append] at ho
          obtain ⟨A1,c1,rfl,_⟩ := own_slice ho
          have hbo := Now.blk (pre:=[]) hS
          replace hS := Now.grown (pre:=[_,_]) hS ho hg (hn.imp id fun h => ⟨_,Nat.le_refl _,h⟩)
          have hbn := Now.blk (pre:=[]) hS
          refine hK _ _ (fun _ _ => ⟨hbn.trans hbo.symm,hg.size⟩) ?_
          clear hK K ho hg hn hbo hbn h1
          try simp only [Act.put,sqA,sqB,sqC]
          clear w1
          refine wpAnyE_fork [11] (by kernel_rfl) (by simp) ?_
          refine sqM ?_
          · refine ⟨_,rfl,?_⟩
            intro w1 h1 K hK
            replace hS := Now.below hS h1
            refine step_append_any w1 rfl _ _ 51 rfl 0 3 i0 _ 1 8 Tryz.underlying51 hi0 hz0 hz1 hz2 rfl (by decide) _ _ _ rfl (Now.row (pre:=[_,_,_]) hS) _ _ T.lens.length _ (ints T.lens) rfl (rd1.below (Sep.base hS)) (ints_one _) n2 n5 (Nat.zero_le _) ?_
            intro v2 w2 ho hg hn
            rw [Nat.zero_add,List.nil_append] at ho
            obtain ⟨A2,c2,rfl,_⟩ := own_slice ho
            have hbo := Now.blk (pre:=[]) hS
            replace hS := Now.grown (pre:=[_,_,_]) hS ho hg (hn.imp id fun h => ⟨_,Nat.le_refl _,h⟩)
            have hbn := Now.blk (pre:=[]) hS
            refine hK _ _ (fun _ _ => ⟨hbn.trans hbo.symm,hg.size⟩) ?_
            clear hK K ho hg hn hbo hbn h1
            try simp only [Act.put,sqA,sqB,sqC]
            clear w1
            refine wpAnyE_fork [15] (by kernel_rfl) (by simp) ?_
            refine sqM ?_
            · refine ⟨_,rfl,?_⟩
              intro w1 h1 K hK
              replace hS := Now.below hS h1
              refine step_append_any w1 rfl _ _ 62 rfl 0 43 j0 _ 1 8 Tryz.underlying62 hj0 hy0 hy1 hy2 rfl (by decide) _ _ _ rfl (Now.row (pre:=[_,_,_,_]) hS) _ _ T.firsts.length _ (u64s T.firsts) rfl (rd2.below (Sep.base hS)) (u64s_one _) n3 n6 (Nat.zero_le _) ?_
              intro v2 w2 ho hg hn
              rw [Nat.zero_add,List.nil_append] at ho
              obtain ⟨A3,c3,rfl,_⟩ := own_slice ho
              have hbo := Now.blk (pre:=[]) hS
              replace hS := Now.grown (pre:=[_,_,_,_]) hS ho hg (hn.imp id fun h => ⟨_,Nat.le_refl _,h⟩)
              have hbn := Now.blk (pre:=[]) hS
              refine hK _ _ (fun _ _ => ⟨hbn.trans hbo.symm,hg.size⟩) ?_
              clear hK K ho hg hn hbo hbn h1
              try simp only [Act.put,sqA,sqB,sqC]
              clear w1
              refine wpAnyE_fork [16] (by kernel_rfl) (by simp) ?_
              refine sqM ?_
              refine ⟨_,rfl,?_⟩
              intro w1 h1 K hK
              replace hS := Now.below hS h1
              go_simp
              refine hK _ _ (fun _ _ => ⟨rfl,Nat.le_refl _⟩) ?_
              clear hK K h1
              try simp only [Act.put,sqA,sqB,sqC]
              refine wpAnyE_fork [17] (by kernel_rfl) (by simp) ?_
              refine sqM ?_
              refine ⟨_,rfl,?_⟩
              intro w2 h2 K hK
              replace hS := Now.below hS h2
              obtain ⟨r0,r1,r2,r3,r4,fr,hS4,hB4⟩ := own8_last hS (Nat.le_succ _) (.int .i64 T.segs) (.int .i64 T.slots) (.slice A1 T.order.length c1) (.slice A2 T.lens.length c2) (.slice A3 T.firsts.length c3)
              have f0 := fr 0
              have f1 := fr 1
              have f2 := fr 2
              have f3 := fr 3
              have f4 := fr 4
              go_simp
              have hbo := Now.blk (pre:=[]) hS
              have hbn := Now.blk (pre:=[]) hS4
              refine hK _ _ (fun _ _ => ⟨hbn.trans hbo.symm,hB4.size⟩) ?_
              clear hK K h2 hS hbo hbn r0 r1 r2 r3 r4 fr f0 f1 f2 f3 f4
              try simp only [Act.put,sqA,sqB,sqC]
              refine wpAnyE_end (by kernel_rfl) fun w5 h5 => ?_
              have hS5 := Now.below hS4 h5
              go_wp2_with fail
              refine bodyPost_ret (v := .agg #[.int .i64 T.segs, .int .i64 T.slots, .slice A1 T.order.length c1, .slice A2 T.lens.length c2, .slice A3 T.firsts.length c3]) ?_ rfl ⟨_,_,_,_,_,_,rfl,Now.drop (pre:=[]) (Now.drop (pre:=[]) hS5)⟩
              exact results_cell_row rfl _ _ _ _ _ (0,0) _ (by simp) (Now.blk (pre:=[_]) hS5) Tryz.underlying71 rfl (by kernel_rfl)
  · refine ⟨_,rfl,?_⟩
    intro w1 h1 K hK
    replace hS := Now.built (pre:=[_,_,_,_]) (Now.below hS h1) 43 1
    go_simp
    refine hK _ _ (fun _ hg => ⟨Below.heap_alloc _ _ _ hg,by simp⟩) ?_
    clear hK K h1
    try simp only [Act.put,sqA,sqB,sqC]
    generalize w1.alloc (.cells #[] 43) = wc1 at hS ⊢
    generalize w1.heap.size = kb3 at hS ⊢
    clear w1
    refine wpAnyE_fork [4,8] (by kernel_rfl) (by simp) ?_
    refine List.forall_mem_cons.2 ⟨?_,List.forall_mem_cons.2 ⟨?_,List.forall_mem_nil _⟩⟩
    · refine ⟨_,rfl,?_⟩
      intro w1 h1 K hK
      replace hS := Now.built (pre:=[_,_]) (Now.below hS h1) 3 1
      go_simp
      refine hK _ _ (fun _ hg => ⟨Below.heap_alloc _ _ _ hg,by simp⟩) ?_
      clear hK K h1
      try simp only [Act.put,sqA,sqB,sqC]
      generalize w1.alloc (.cells #[] 3) = wc2 at hS ⊢
      generalize w1.heap.size = kb1 at hS ⊢
      clear w1
      refine wpAnyE_fork [7,8] (by kernel_rfl) (by simp) ?_
      refine List.forall_mem_cons.2 ⟨?_,List.forall_mem_cons.2 ⟨?_,List.forall_mem_nil _⟩⟩
      · refine ⟨_,rfl,?_⟩
        intro w1 h1 K hK
        replace hS := Now.below hS h1
        refine step_append_any w1 rfl _ _ 51 rfl 0 3 i0 _ 1 8 Tryz.underlying51 hi0 hz0 hz1 hz2 rfl (by decide) _ _ _ rfl (Now.row (pre:=[_,_]) hS) _ _ T.order.length _ (ints T.order) rfl (rd0.below (Sep.base hS)) (ints_one _) n1 n4 (Nat.zero_le _) ?_
        intro v2 w2 ho hg hn
        rw [Nat.zero_add,List.nil_append] at ho
        obtain ⟨A1,c1,rfl,_⟩ := own_slice ho
        have hbo := Now.blk (pre:=[]) hS
        replace hS := Now.grown (pre:=[_,_]) hS ho hg (hn.imp id fun h => ⟨_,Nat.le_refl _,h⟩)
        have hbn := Now.blk (pre:=[]) hS
        refine hK _ _ (fun _ _ => ⟨hbn.trans hbo.symm,hg.size⟩) ?_
        clear hK K ho hg hn hbo hbn h1
        try simp only [Act.put,sqA,sqB,sqC]
        clear w1
        refine wpAnyE_fork [8] (by kernel_rfl) (by simp) ?_
        refine sqM ?_
        · refine ⟨_,rfl,?_⟩
          intro w1 h1 K hK
          replace hS := Now.built (pre:=[_,_,_]) (Now.below hS h1) 3 1
          go_simp
          refine hK _ _ (fun _ hg => ⟨Below.heap_alloc _ _ _ hg,by simp⟩) ?_
          clear hK K h1
          try simp only [Act.put,sqA,sqB,sqC]
          generalize w1.alloc (.cells #[] 3) = wc4 at hS ⊢
          generalize w1.heap.size = kb2 at hS ⊢
          clear w1
          refine wpAnyE_fork [11] (by kernel_rfl) (by simp) ?_
          refine sqM ?_
          · refine ⟨_,rfl,?_⟩
            intro w1 h1 K hK
            replace hS := Now.below hS h1
            refine step_append_any w1 rfl _ _ 51 rfl 0 3 i0 _ 1 8 Tryz.underlying51 hi0 hz0 hz1 hz2 rfl (by decide) _ _ _ rfl (Now.row (pre:=[_,_,_]) hS) _ _ T.lens.length _ (ints T.lens) rfl (rd1.below (Sep.base hS)) (ints_one _) n2 n5 (Nat.zero_le _) ?_
            intro v2 w2 ho hg hn
            rw [Nat.zero_add,List.nil_append] at ho
            obtain ⟨A2,c2,rfl,_⟩ := own_slice ho
            have hbo := Now.blk (pre:=[]) hS
            replace hS := Now.grown (pre:=[_,_,_]) hS ho hg (hn.imp id fun h => ⟨_,Nat.le_refl _,h⟩)
            have hbn := Now.blk (pre:=[]) hS
            refine hK _ _ (fun _ _ => ⟨hbn.trans hbo.symm,hg.size⟩) ?_
            clear hK K ho hg hn hbo hbn h1
            try simp only [Act.put,sqA,sqB,sqC]
            clear w1
            refine wpAnyE_fork [15] (by kernel_rfl) (by simp) ?_
            refine sqM ?_
            · refine ⟨_,rfl,?_⟩
              intro w1 h1 K hK
              replace hS := Now.below hS h1
              refine step_append_any w1 rfl _ _ 62 rfl 0 43 j0 _ 1 8 Tryz.underlying62 hj0 hy0 hy1 hy2 rfl (by decide) _ _ _ rfl (Now.row (pre:=[_,_,_,_]) hS) _ _ T.firsts.length _ (u64s T.firsts) rfl (rd2.below (Sep.base hS)) (u64s_one _) n3 n6 (Nat.zero_le _) ?_
              intro v2 w2 ho hg hn
              rw [Nat.zero_add,List.nil_append] at ho
              obtain ⟨A3,c3,rfl,_⟩ := own_slice ho
              have hbo := Now.blk (pre:=[]) hS
              replace hS := Now.grown (pre:=[_,_,_,_]) hS ho hg (hn.imp id fun h => ⟨_,Nat.le_refl _,h⟩)
              have hbn := Now.blk (pre:=[]) hS
              refine hK _ _ (fun _ _ => ⟨hbn.trans hbo.symm,hg.size⟩) ?_
              clear hK K ho hg hn hbo hbn h1
              try simp only [Act.put,sqA,sqB,sqC]
              clear w1
              refine wpAnyE_fork [16] (by kernel_rfl) (by simp) ?_
              refine sqM ?_
              refine ⟨_,rfl,?_⟩
              intro w1 h1 K hK
              replace hS := Now.below hS h1
              go_simp
              refine hK _ _ (fun _ _ => ⟨rfl,Nat.le_refl _⟩) ?_
              clear hK K h1
              try simp only [Act.put,sqA,sqB,sqC]
              refine wpAnyE_fork [17] (by kernel_rfl) (by simp) ?_
              refine sqM ?_
              refine ⟨_,rfl,?_⟩
              intro w2 h2 K hK
              replace hS := Now.below hS h2
              obtain ⟨r0,r1,r2,r3,r4,fr,hS4,hB4⟩ := own8_last hS (Nat.le_succ _) (.int .i64 T.segs) (.int .i64 T.slots) (.slice A1 T.order.length c1) (.slice A2 T.lens.length c2) (.slice A3 T.firsts.length c3)
              have f0 := fr 0
              have f1 := fr 1
              have f2 := fr 2
              have f3 := fr 3
              have f4 := fr 4
              go_simp
              have hbo := Now.blk (pre:=[]) hS
              have hbn := Now.blk (pre:=[]) hS4
              refine hK _ _ (fun _ _ => ⟨hbn.trans hbo.symm,hB4.size⟩) ?_
              clear hK K h2 hS hbo hbn r0 r1 r2 r3 r4 fr f0 f1 f2 f3 f4
              try simp only [Act.put,sqA,sqB,sqC]
              refine wpAnyE_end (by kernel_rfl) fun w5 h5 => ?_
              have hS5 := Now.below hS4 h5
              go_wp2_with fail
              refine bodyPost_ret (v := .agg #[.int .i64 T.segs, .int .i64 T.slots, .slice A1 T.order.length c1, .slice A2 T.lens.length c2, .slice A3 T.firsts.length c3]) ?_ rfl ⟨_,_,_,_,_,_,rfl,Now.drop (pre:=[]) (Now.drop (pre:=[]) hS5)⟩
              exact results_cell_row rfl _ _ _ _ _ (0,0) _ (by simp) (Now.blk (pre:=[_]) hS5) Tryz.underlying71 rfl (by kernel_rfl)
      · refine ⟨_,rfl,?_⟩
        intro w1 h1 K hK
        replace hS := Now.built (pre:=[_,_,_]) (Now.below hS h1) 3 1
        go_simp
        refine hK _ _ (fun _ hg => ⟨Below.heap_alloc _ _ _ hg,by simp⟩) ?_
        clear hK K h1
        try simp only [Act.put,sqA,sqB,sqC]
        generalize w1.alloc (.cells #[] 3) = wc3 at hS ⊢
        generalize w1.heap.size = kb2 at hS ⊢
        clear w1
        refine wpAnyE_fork [7] (by kernel_rfl) (by simp) ?_
        refine sqM ?_
        · refine ⟨_,rfl,?_⟩
          intro w1 h1 K hK
          replace hS := Now.below hS h1
          refine step_append_any w1 rfl _ _ 51 rfl 0 3 i0 _ 1 8 Tryz.underlying51 hi0 hz0 hz1 hz2 rfl (by decide) _ _ _ rfl (Now.row (pre:=[_,_]) hS) _ _ T.order.length _ (ints T.order) rfl (rd0.below (Sep.base hS)) (ints_one _) n1 n4 (Nat.zero_le _) ?_
          intro v2 w2 ho hg hn
          rw [Nat.zero_add,List.nil_append] at ho
          obtain ⟨A1,c1,rfl,_⟩ := own_slice ho
          have hbo := Now.blk (pre:=[]) hS
          replace hS := Now.grown (pre:=[_,_]) hS ho hg (hn.imp id fun h => ⟨_,Nat.le_refl _,h⟩)
          have hbn := Now.blk (pre:=[]) hS
          refine hK _ _ (fun _ _ => ⟨hbn.trans hbo.symm,hg.size⟩) ?_
          clear hK K ho hg hn hbo hbn h1
          try simp only [Act.put,sqA,sqB,sqC]
          clear w1
          refine wpAnyE_fork [11] (by kernel_rfl) (by simp) ?_
          refine sqM ?_
          · refine ⟨_,rfl,?_⟩
            intro w1 h1 K hK
            replace hS := Now.below hS h1
            refine step_append_any w1 rfl _ _ 51 rfl 0 3 i0 _ 1 8 Tryz.underlying51 hi0 hz0 hz1 hz2 rfl (by decide) _ _ _ rfl (Now.row (pre:=[_,_,_]) hS) _ _ T.lens.length _ (ints T.lens) rfl (rd1.below (Sep.base hS)) (ints_one _) n2 n5 (Nat.zero_le _) ?_
            intro v2 w2 ho hg hn
            rw [Nat.zero_add,List.nil_append] at ho
            obtain ⟨A2,c2,rfl,_⟩ := own_slice ho
            have hbo := Now.blk (pre:=[]) hS
            replace hS := Now.grown (pre:=[_,_,_]) hS ho hg (hn.imp id fun h => ⟨_,Nat.le_refl _,h⟩)
            have hbn := Now.blk (pre:=[]) hS
            refine hK _ _ (fun _ _ => ⟨hbn.trans hbo.symm,hg.size⟩) ?_
            clear hK K ho hg hn hbo hbn h1
            try simp only [Act.put,sqA,sqB,sqC]
            clear w1
            refine wpAnyE_fork [15] (by kernel_rfl) (by simp) ?_
            refine sqM ?_
            · refine ⟨_,rfl,?_⟩
              intro w1 h1 K hK
              replace hS := Now.below hS h1
              refine step_append_any w1 rfl _ _ 62 rfl 0 43 j0 _ 1 8 Tryz.underlying62 hj0 hy0 hy1 hy2 rfl (by decide) _ _ _ rfl (Now.row (pre:=[_,_,_,_]) hS) _ _ T.firsts.length _ (u64s T.firsts) rfl (rd2.below (Sep.base hS)) (u64s_one _) n3 n6 (Nat.zero_le _) ?_
              intro v2 w2 ho hg hn
              rw [Nat.zero_add,List.nil_append] at ho
              obtain ⟨A3,c3,rfl,_⟩ := own_slice ho
              have hbo := Now.blk (pre:=[]) hS
              replace hS := Now.grown (pre:=[_,_,_,_]) hS ho hg (hn.imp id fun h => ⟨_,Nat.le_refl _,h⟩)
              have hbn := Now.blk (pre:=[]) hS
              refine hK _ _ (fun _ _ => ⟨hbn.trans hbo.symm,hg.size⟩) ?_
              clear hK K ho hg hn hbo hbn h1
              try simp only [Act.put,sqA,sqB,sqC]
              clear w1
              refine wpAnyE_fork [16] (by kernel_rfl) (by simp) ?_
              refine sqM ?_
              refine ⟨_,rfl,?_⟩
              intro w1 h1 K hK
              replace hS := Now.below hS h1
              go_simp
              refine hK _ _ (fun _ _ => ⟨rfl,Nat.le_refl _⟩) ?_
              clear hK K h1
              try simp only [Act.put,sqA,sqB,sqC]
              refine wpAnyE_fork [17] (by kernel_rfl) (by simp) ?_
              refine sqM ?_
              refine ⟨_,rfl,?_⟩
              intro w2 h2 K hK
              replace hS := Now.below hS h2
              obtain ⟨r0,r1,r2,r3,r4,fr,hS4,hB4⟩ := own8_last hS (Nat.le_succ _) (.int .i64 T.segs) (.int .i64 T.slots) (.slice A1 T.order.length c1) (.slice A2 T.lens.length c2) (.slice A3 T.firsts.length c3)
              have f0 := fr 0
              have f1 := fr 1
              have f2 := fr 2
              have f3 := fr 3
              have f4 := fr 4
              go_simp
              have hbo := Now.blk (pre:=[]) hS
              have hbn := Now.blk (pre:=[]) hS4
              refine hK _ _ (fun _ _ => ⟨hbn.trans hbo.symm,hB4.size⟩) ?_
              clear hK K h2 hS hbo hbn r0 r1 r2 r3 r4 fr f0 f1 f2 f3 f4
              try simp only [Act.put,sqA,sqB,sqC]
              refine wpAnyE_end (by kernel_rfl) fun w5 h5 => ?_
              have hS5 := Now.below hS4 h5
              go_wp2_with fail
              refine bodyPost_ret (v := .agg #[.int .i64 T.segs, .int .i64 T.slots, .slice A1 T.order.length c1, .slice A2 T.lens.length c2, .slice A3 T.firsts.length c3]) ?_ rfl ⟨_,_,_,_,_,_,rfl,Now.drop (pre:=[]) (Now.drop (pre:=[]) hS5)⟩
              exact results_cell_row rfl _ _ _ _ _ (0,0) _ (by simp) (Now.blk (pre:=[_]) hS5) Tryz.underlying71 rfl (by kernel_rfl)
    · refine ⟨_,rfl,?_⟩
      intro w1 h1 K hK
      replace hS := Now.built (pre:=[_,_,_]) (Now.below hS h1) 3 1
      go_simp
      refine hK _ _ (fun _ hg => ⟨Below.heap_alloc _ _ _ hg,by simp⟩) ?_
      clear hK K h1
      try simp only [Act.put,sqA,sqB,sqC]
      generalize w1.alloc (.cells #[] 3) = wc2 at hS ⊢
      generalize w1.heap.size = kb2 at hS ⊢
      clear w1
      refine wpAnyE_fork [4] (by kernel_rfl) (by simp) ?_
      refine sqM ?_
      · refine ⟨_,rfl,?_⟩
        intro w1 h1 K hK
        replace hS := Now.built (pre:=[_,_]) (Now.below hS h1) 3 1
        go_simp
        refine hK _ _ (fun _ hg => ⟨Below.heap_alloc _ _ _ hg,by simp⟩) ?_
        clear hK K h1
        try simp only [Act.put,sqA,sqB,sqC]
        generalize w1.alloc (.cells #[] 3) = wc3 at hS ⊢
        generalize w1.heap.size = kb1 at hS ⊢
        clear w1
        refine wpAnyE_fork [7] (by kernel_rfl) (by simp) ?_
        refine sqM ?_
        · refine ⟨_,rfl,?_⟩
          intro w1 h1 K hK
          replace hS := Now.below hS h1
          refine step_append_any w1 rfl _ _ 51 rfl 0 3 i0 _ 1 8 Tryz.underlying51 hi0 hz0 hz1 hz2 rfl (by decide) _ _ _ rfl (Now.row (pre:=[_,_]) hS) _ _ T.order.length _ (ints T.order) rfl (rd0.below (Sep.base hS)) (ints_one _) n1 n4 (Nat.zero_le _) ?_
          intro v2 w2 ho hg hn
          rw [Nat.zero_add,List.nil_append] at ho
          obtain ⟨A1,c1,rfl,_⟩ := own_slice ho
          have hbo := Now.blk (pre:=[]) hS
          replace hS := Now.grown (pre:=[_,_]) hS ho hg (hn.imp id fun h => ⟨_,Nat.le_refl _,h⟩)
          have hbn := Now.blk (pre:=[]) hS
          refine hK _ _ (fun _ _ => ⟨hbn.trans hbo.symm,hg.size⟩) ?_
          clear hK K ho hg hn hbo hbn h1
          try simp only [Act.put,sqA,sqB,sqC]
          clear w1
          refine wpAnyE_fork [11] (by kernel_rfl) (by simp) ?_
          refine sqM ?_
          · refine ⟨_,rfl,?_⟩
            intro w1 h1 K hK
            replace hS := Now.below hS h1
            refine step_append_any w1 rfl _ _ 51 rfl 0 3 i0 _ 1 8 Tryz.underlying51 hi0 hz0 hz1 hz2 rfl (by decide) _ _ _ rfl (Now.row (pre:=[_,_,_]) hS) _ _ T.lens.length _ (ints T.lens) rfl (rd1.below (Sep.base hS)) (ints_one _) n2 n5 (Nat.zero_le _) ?_
            intro v2 w2 ho hg hn
            rw [Nat.zero_add,List.nil_append] at ho
            obtain ⟨A2,c2,rfl,_⟩ := own_slice ho
            have hbo := Now.blk (pre:=[]) hS
            replace hS := Now.grown (pre:=[_,_,_]) hS ho hg (hn.imp id fun h => ⟨_,Nat.le_refl _,h⟩)
            have hbn := Now.blk (pre:=[]) hS
            refine hK _ _ (fun _ _ => ⟨hbn.trans hbo.symm,hg.size⟩) ?_
            clear hK K ho hg hn hbo hbn h1
            try simp only [Act.put,sqA,sqB,sqC]
            clear w1
            refine wpAnyE_fork [15] (by kernel_rfl) (by simp) ?_
            refine sqM ?_
            · refine ⟨_,rfl,?_⟩
              intro w1 h1 K hK
              replace hS := Now.below hS h1
              refine step_append_any w1 rfl _ _ 62 rfl 0 43 j0 _ 1 8 Tryz.underlying62 hj0 hy0 hy1 hy2 rfl (by decide) _ _ _ rfl (Now.row (pre:=[_,_,_,_]) hS) _ _ T.firsts.length _ (u64s T.firsts) rfl (rd2.below (Sep.base hS)) (u64s_one _) n3 n6 (Nat.zero_le _) ?_
              intro v2 w2 ho hg hn
              rw [Nat.zero_add,List.nil_append] at ho
              obtain ⟨A3,c3,rfl,_⟩ := own_slice ho
              have hbo := Now.blk (pre:=[]) hS
              replace hS := Now.grown (pre:=[_,_,_,_]) hS ho hg (hn.imp id fun h => ⟨_,Nat.le_refl _,h⟩)
              have hbn := Now.blk (pre:=[]) hS
              refine hK _ _ (fun _ _ => ⟨hbn.trans hbo.symm,hg.size⟩) ?_
              clear hK K ho hg hn hbo hbn h1
              try simp only [Act.put,sqA,sqB,sqC]
              clear w1
              refine wpAnyE_fork [16] (by kernel_rfl) (by simp) ?_
              refine sqM ?_
              refine ⟨_,rfl,?_⟩
              intro w1 h1 K hK
              replace hS := Now.below hS h1
              go_simp
              refine hK _ _ (fun _ _ => ⟨rfl,Nat.le_refl _⟩) ?_
              clear hK K h1
              try simp only [Act.put,sqA,sqB,sqC]
              refine wpAnyE_fork [17] (by kernel_rfl) (by simp) ?_
              refine sqM ?_
              refine ⟨_,rfl,?_⟩
              intro w2 h2 K hK
              replace hS := Now.below hS h2
              obtain ⟨r0,r1,r2,r3,r4,fr,hS4,hB4⟩ := own8_last hS (Nat.le_succ _) (.int .i64 T.segs) (.int .i64 T.slots) (.slice A1 T.order.length c1) (.slice A2 T.lens.length c2) (.slice A3 T.firsts.length c3)
              have f0 := fr 0
              have f1 := fr 1
              have f2 := fr 2
              have f3 := fr 3
              have f4 := fr 4
              go_simp
              have hbo := Now.blk (pre:=[]) hS
              have hbn := Now.blk (pre:=[]) hS4
              refine hK _ _ (fun _ _ => ⟨hbn.trans hbo.symm,hB4.size⟩) ?_
              clear hK K h2 hS hbo hbn r0 r1 r2 r3 r4 fr f0 f1 f2 f3 f4
              try simp only [Act.put,sqA,sqB,sqC]
              refine wpAnyE_end (by kernel_rfl) fun w5 h5 => ?_
              have hS5 := Now.below hS4 h5
              go_wp2_with fail
              refine bodyPost_ret (v := .agg #[.int .i64 T.segs, .int .i64 T.slots, .slice A1 T.order.length c1, .slice A2 T.lens.length c2, .slice A3 T.firsts.length c3]) ?_ rfl ⟨_,_,_,_,_,_,rfl,Now.drop (pre:=[]) (Now.drop (pre:=[]) hS5)⟩
              exact results_cell_row rfl _ _ _ _ _ (0,0) _ (by simp) (Now.blk (pre:=[_]) hS5) Tryz.underlying71 rfl (by kernel_rfl)
end Go.Proofs.YtidacaihmjdmkaaGreat
