/- What the laws of this seat lean on, part 21. -/
import Derived.Test.YtidacaihmjdmkaaGreatZK19
import Derived.Test.YtidacaihmjdmkaaGreatZK7
import Derived.Test.YtidacaihmjdmkaaGreatZK20
set_option linter.unusedSimpArgs false
set_option linter.unusedVariables false
set_option maxRecDepth 100000
namespace Go.Proofs.YtidacaihmjdmkaaGreat
open Go.RowKit
attribute [local go_sem high] run_mx run_mn
theorem row_first {w : World} {t : TypeId} {fa : Addr} {n c : Nat} {xs : List Value} {u : Value} (h : w.ownsRow 0 t 1 (.slice (some fa) n c) n xs) (hn : 0 < n) (hx : xs[0]? = some u) : w.cell? (fa.add 0) = some u := by
  obtain ⟨fa',e,_,hc⟩ := (Reads.of_own h).2 hn
  cases e
  exact hc 0 u hx
set_option maxHeartbeats 8000000 in
theorem RRoll_ok (T : Tab) (hT : T.Ok) (N : Nat) (hN : T.segs = N) (f : Int) (l : List Int) (hf : T.freeTo N = f :: l) (first : Int) (AO : Option Addr) (cO : Nat) (AL : Option Addr) (cL : Nat) (AF : Option Addr) (cF : Nat) (w : World) (h : TabIn w w.heap.size T AO AL AF) :
    Calls Tryz.prog 86 #[.agg (tabCells T AO cO AL cL AF cF), .int .u64 first] w fun e w' => GotTab w w' (T.roll f first) e := by
  have hfree := fun v (hv : Below w.heap.size w v) => RFree_any T hT N hN AO cO AL cL AF cF v ((h.below hv).more hv.size)
  have hown := fun v (hv : Below w.heap.size w v) => own8_any T hT.short AO cO AL cL AF cF v ((h.below hv).more hv.size)
  have hS : Sep w ((w.alloc (.cells (tabCells T AO cO AL cL AF cF) 71)).alloc (.cells #[.int .i64 0, .int .i64 0, .slice none 0 0, .slice none 0 0, .slice none 0 0] 71)) [Thing.cells (w.heap.size + 1) 71 #[.int .i64 0, .int .i64 0, .slice none 0 0, .slice none 0 0, .slice none 0 0],Thing.cells w.heap.size 71 (tabCells T AO cO AL cL AF cF)] := by
    have := Now.pushCells (Now.pushCells (Sep.start w) 71 (tabCells T AO cO AL cL AF cF)) 71 #[.int .i64 0, .int .i64 0, .slice none 0 0, .slice none 0 0, .slice none 0 0]
    simpa using this
  have HF := Lib.hid hf
  have hmn := hT.many
  have hln := hT.len
  have hfn := hT.fst
  obtain ⟨i0,hi0,hz0,hz1,hz2⟩ := info_parts infoInt
  obtain ⟨j0,hj0,hy0,hy1,hy2⟩ := info_parts infoU64
  have n1 : T.order.length + 1 ≤ maxLen := by unfold maxLen;omega
  have n2 : T.lens.length + 1 ≤ maxLen := by unfold maxLen;omega
  have n3 : T.firsts.length + 1 ≤ maxLen := by unfold maxLen;omega
  have m1 : (T.order.length + 1) * 8 ≤ 140737488355328 := by omega
  have m2 : (T.lens.length + 1) * 8 ≤ 140737488355328 := by omega
  have m3 : (T.firsts.length + 1) * 8 ≤ 140737488355328 := by omega
  clear h hT hN hf hmn hln hfn
  go_enter Tryz.func86,Tryz.ntmps86
  go_wp2_with fail
  generalize (w.alloc (.cells (tabCells T AO cO AL cL AF cF) 71)).alloc (.cells #[.int .i64 0, .int .i64 0, .slice none 0 0, .slice none 0 0, .slice none 0 0] 71) = wb at hS ⊢
  have hb := Now.blk (pre:=[_]) hS
  have HB : w.heap.size < wb.drew.heap.size := hb.lt
  have hcell : ∀ w1 : World,(w1.heap[w.heap.size]? = wb.drew.heap[w.heap.size]? ∧ wb.drew.heap.size ≤ w1.heap.size) → w1.cell? ⟨w.heap.size,0,none⟩ = some (.int .i64 T.segs) ∧ w1.cell? ⟨w.heap.size,1,none⟩ = some (.int .i64 T.slots) ∧ w1.cell? ⟨w.heap.size,2,none⟩ = some (.slice AO T.order.length cO) ∧ w1.cell? ⟨w.heap.size,3,none⟩ = some (.slice AL T.lens.length cL) ∧ w1.cell? ⟨w.heap.size,4,none⟩ = some (.slice AF T.firsts.length cF) := fun w1 h1 => by
    have hb1 : Blk w1 w.heap.size 71 (tabCells T AO cO AL cL AF cF) := h1.1.trans hb
    exact ⟨hb1.cell 0,hb1.cell 1,hb1.cell 2,hb1.cell 3,hb1.cell 4⟩
  replace hS := hS.drew
  refine wp_region_takes (KeepG.grow w.heap.size) [] [(0,false),(2,false)] 5 (by kernel_rfl) (by kernel_rfl) rfl (by kernel_rfl) (by intro _ _ d _ _ h;cases d <;> exact h) ?_
  iterate 2
    (apply wpTakes_take
     · exact rfl
     · intro w1 hR1;have h1 := hR1 HB
       (obtain ⟨c0,c1,c2,c3,c4⟩ := hcell w1 h1)
       go_simp
       first
         | with_reducible exact ⟨rfl,sqN _⟩
     simp only [Act.put,sqA,sqB,sqC])
  refine wpTakes_done ?_
  clear hcell hb HB
  generalize wb.drew = wc at hS ⊢
  refine wpAnyE_fork [1,4] (by kernel_rfl) (by simp) ?_
  refine List.forall_mem_cons.2 ⟨?_,List.forall_mem_cons.2 ⟨?_,List.forall_mem_nil _⟩⟩
  · refine ⟨_,rfl,?_⟩
    intro w1 h1 K hK
    replace hS := Now.below hS h1
    go_simp
    go_at_call 84
    refine (hfree w1 (Sep.base hS)).mono ?_
    rintro e w2 ⟨FA,fc,rfl,hO⟩
    refine hK _ _ (fun _ hg => ⟨(Sep.base hO).block _ hg,hO.size⟩) ?_
    replace hS := Now.pushAll hS hO
    clear hK K h1 hO
    try simp only [Act.put,sqA,sqB,sqC]
    refine wpAnyE_fork [3,4] (by kernel_rfl) (by simp) ?_
    refine List.forall_mem_cons.2 ⟨?_,List.forall_mem_cons.2 ⟨?_,List.forall_mem_nil _⟩⟩
    · refine ⟨_,rfl,?_⟩
      intro w1 h1 K hK
      replace hS := Now.below hS h1
      go_simp
      go_at_call 142
      refine (hown w1 (Sep.base hS)).mono ?_
      rintro e w3 ⟨A1,k1,A2,k2,A3,k3,rfl,hO⟩
      refine hK _ _ (fun _ hg => ⟨(Sep.base hO).block _ hg,hO.size⟩) ?_
      replace hS := Now.pushAll hS hO
      clear hK K h1 hO
      try simp only [Act.put,sqA,sqB,sqC]
      refine wpAnyE_fork [4] (by kernel_rfl) (by simp) ?_
      refine sqM ?_
      · refine ⟨_,rfl,?_⟩
        intro w1 h1 K hK
        replace hS := Now.below hS h1
        have hyne : w1.heap.size ≠ w.heap.size + 1 := fun e => absurd (Now.blk (pre:=[_,_,_,_]) hS).lt (by rw [e];exact Nat.lt_irrefl _)
        replace hS := Now.pushCells hS 71 #[.int .i64 0, .int .i64 0, .slice none 0 0, .slice none 0 0, .slice none 0 0]
        go_simp
        refine hK _ _ (fun _ hg => ⟨Below.heap_alloc _ _ _ hg,by simp⟩) ?_
        clear hK K h1
        try simp only [Act.put,sqA,sqB,sqC]
        generalize w1.alloc (.cells #[.int .i64 0, .int .i64 0, .slice none 0 0, .slice none 0 0, .slice none 0 0] 71) = wa at hS ⊢
        generalize w1.heap.size = y at hS hyne ⊢
        apply wpAnyE_pure (KeepG.grow w.heap.size) 5
        · kernel_rfl
        · intro _ _ d _ _ h;cases d <;> exact h
        · exact rfl
        · kernel_rfl
        · intro wv
          go_simp
          exact ⟨rfl,sqN _⟩
        try simp only [Act.put,sqA,sqB,sqC]
        refine wpAnyE_fork [6] (by kernel_rfl) (by simp) ?_
        refine sqM ?_
        · refine ⟨_,rfl,?_⟩
          intro w1 h1 K hK
          replace hS := Now.below hS h1
          obtain ⟨r0,r1,r2,r3,r4,fr,hS4,hB4⟩ := ref8_set (pre:=[]) hS (.int .i64 T.segs) (.int .i64 T.slots) (.slice A1 T.order.length k1) (.slice A2 T.lens.length k2) (.slice A3 T.firsts.length k3)
          have f0 := fr 0
          have f1 := fr 1
          have f2 := fr 2
          have f3 := fr 3
          have f4 := fr 4
          go_simp
          have hbo := Now.blk (pre:=[_,_,_,_,_,_]) hS
          have hbn := Now.blk (pre:=[_,_,_,_,_,_]) hS4
          refine hK _ _ (fun _ _ => ⟨hbn.trans hbo.symm,hB4⟩) ?_
          replace hS := hS4
          clear hK K h1 hS4 hbo hbn r0 r1 r2 r3 r4 fr f0 f1 f2 f3 f4
          try simp only [Act.put,sqA,sqB,sqC]
          replace hS := Now.front (pre:=[_,_,_,_,_,_]) hS
          replace hS := Now.front (pre:=[_,_,_,_,_,_]) hS
          replace hS := Now.front (pre:=[_,_,_,_,_,_]) hS
          replace hS := Now.front (pre:=[_,_,_,_,_,_]) hS
          replace hS := Now.front (pre:=[_,_,_,_,_,_]) hS
          replace hS := Now.front (pre:=[_,_,_,_,_,_]) hS
          replace hS := Now.front (pre:=[_,_,_,_,_,_]) hS
          have hYN := Lib.hid hyne
          refine wpAnyE_end (by kernel_rfl) fun w5 h5 => ?_
          replace hS := Now.below hS h5
          clear h5
          replace hS : Sep w w5 [Thing.cells y 71 (tabCells T A1 k1 A2 k2 A3 k3),Thing.row 3 1 (.slice A1 T.order.length k1) T.order.length (ints T.order),Thing.row 3 1 (.slice A2 T.lens.length k2) T.lens.length (ints T.lens),Thing.row 43 1 (.slice A3 T.firsts.length k3) T.firsts.length (u64s T.firsts),Thing.row 3 1 (.slice FA (T.freeTo N).length fc) (T.freeTo N).length (ints (T.freeTo N)),Thing.cells (w.heap.size + 1) 71 #[.int .i64 0, .int .i64 0, .slice none 0 0, .slice none 0 0, .slice none 0 0],Thing.cells w.heap.size 71 (tabCells T AO cO AL cL AF cF)] := hS
          obtain ⟨fa,e2,hfaB,hfc⟩ := (Reads.of_own (Now.row (pre:=[_,_,_,_]) hS)).2 (by rw [HF.out];exact Nat.succ_pos _)
          subst e2
          have hxz : (ints (T.freeTo N))[0]? = some (.int .i64 f) := by rw [HF.out];rfl
          have hfz := hfc 0 (.int .i64 f) hxz
          obtain ⟨φ,hφ⟩ : ∃ φ,(T.freeTo N).length = φ := ⟨_,rfl⟩
          have hφ4 : 0 < φ := by rw [← hφ,HF.out];exact Nat.succ_pos _
          have hφ3 : ¬ (φ : Int) = 0 := by omega
          have hφ1 : (0 : Int) < (φ : Int) := by omega
          have hφ2 : ((φ : Int) == 0) = false := beq_eq_false_iff_ne.2 hφ3
          rw [hφ] at hS ⊢
          clear hφ hfc hfaB
          go_wp2_with fail
          have hyb := Now.blk (pre:=[]) hS
          have HB : y < w5.drew.heap.size := hyb.lt
          have hcell : ∀ w1 : World,((y < w5.drew.heap.size → w1.heap[y]? = w5.drew.heap[y]? ∧ w5.drew.heap.size ≤ w1.heap.size) ∧ (w5.drew.heap.size ≤ w1.heap.size ∧ ∀ v,w5.drew.cell? (fa.add 0) = some v → w1.cell? (fa.add 0) = some v)) → w1.cell? ⟨y,2,none⟩ = some (.slice A1 T.order.length k1) ∧ w1.cell? fa = some (.int .i64 f) := fun w1 h1 => by
            have hb1 : Blk w1 y 71 (tabCells T A1 k1 A2 k2 A3 k3) := (h1.1 HB).1.trans hyb
            exact ⟨hb1.cell 2,h1.2.2 _ hfz⟩
          replace hS := hS.drew
          refine wp_region_takes ((KeepG.grow y).and (KeepC.grow (fa.add 0))) [8] [(0,false),(1,false),(2,false),(3,false),(4,false)] 4 (by kernel_rfl) (by kernel_rfl) rfl (by kernel_rfl) (by intro _ _ d _ _ h;cases d <;> exact h) ?_
          iterate 5
            (apply wpTakes_take
             · exact rfl
             · intro w1v hR1
               (obtain ⟨c2,cf⟩ := hcell w1v hR1)
               go_simp
               first
                 | with_reducible exact ⟨rfl,sqN _⟩
             simp only [Act.put,sqA,sqB,sqC])
          refine wpTakes_done ?_
          clear hcell hyb HB
          generalize w5.drew = wd at hS hfz ⊢
          refine wpAnyE_fork [5] (by kernel_rfl) (by simp) ?_
          refine sqM ?_
          refine ⟨_,rfl,?_⟩
          intro w1 h1 K hK
          have hSn := Now.pushCells (Now.below hS h1) 3 #[.int .i64 f]
          go_simp
          refine hK _ _ (fun _ => ((KeepG.grow y).and (KeepC.grow (fa.add 0))).sub _ _ ((Newer.refl w1).alloc _)) ?_
          replace hS := hSn
          clear hSn hK K h1 hfz
          try simp only [Act.put,sqA,sqB,sqC]
          generalize w1.alloc (.cells #[.int .i64 f] 3) = we at hS ⊢
          generalize w1.heap.size = kb at hS ⊢
          clear w1
          refine wpAnyE_fork [6] (by kernel_rfl) (by simp) ?_
          refine sqM ?_
          refine ⟨_,rfl,?_⟩
          intro w1 h1 K hK
          replace hS := Now.below hS h1
          refine wp_app_now _ _ 51 3 rfl Tryz.underlying51 hi0 hz0 hz1 hz2 rfl (pre:=[_,_]) hS (Now.blk (pre:=[]) hS) rfl rfl rfl n1 m1 ?_
          intro gO capO wf hz hS2
          have q1 := row_first (Now.row (pre:=[_,_,_,_,_]) hS) hφ4 hxz
          have q2 := row_first (Now.row (pre:=[_,_,_,_,_]) hS2) hφ4 hxz
          refine hK _ _ (fun _ => ⟨fun _ => ⟨(Now.blk (pre:=[_]) hS2).trans (Now.blk (pre:=[_]) hS).symm,hz⟩,hz,fun v hv => q2.trans (q1.symm.trans hv)⟩) ?_
          replace hS := hS2
          clear hS2 hz hK K h1 q1 q2
          try simp only [Act.put,sqA,sqB,sqC]
          clear w1
          apply wpAnyE_pure ((KeepG.grow y).and (KeepC.grow (fa.add 0))) 7
          · kernel_rfl
          · intro _ _ d _ _ h;cases d <;> exact h
          · exact rfl
          · kernel_rfl
          · intro w1
            go_simp
            exact ⟨rfl,sqN _⟩
          try simp only [Act.put,sqA,sqB,sqC]
          refine wpAnyE_fork [8] (by kernel_rfl) (by simp) ?_
          refine sqM ?_
          refine ⟨_,rfl,?_⟩
          intro w1 h1 K hK
          replace hS := Now.below hS h1
          have hyb := Now.blk (pre:=[_]) hS
          have b2 : _ = some (Value.slice A1 T.order.length k1) := hyb.cell 2
          have f2 := hyb.frozen 2
          go_simp
          refine hK _ _ (fun h => absurd (by simp) h) ?_
          have hS2 := Now.drop (pre:=[_,_,_,_]) (Now.drop (pre:=[]) (Now.set_ (pre:=[_]) hS 2 (.slice (some ⟨gO,0,none⟩) (T.order.length + 1) capO)))
          clear hK K h1 hS hyb b2 f2
          try simp only [Act.put,sqA,sqB,sqC]
          generalize w1.setCell ⟨y,2,none⟩ (.slice (some ⟨gO,0,none⟩) (T.order.length + 1) capO) = wg at hS2 ⊢
          clear w1
          refine wpAnyE_end (by kernel_rfl) fun w6 h6 => ?_
          replace hS2 := Now.below hS2 h6
          clear h6
          have hyb := Now.blk (pre:=[]) hS2
          have b3 : w6.cell? ⟨y,3,none⟩ = some (Value.slice A2 T.lens.length k2) := hyb.cell 3
          have hrow := Now.row (pre:=[_,_]) hS2
          clear hyb
          go_wp2_with (first
            | (have _g := b3;at_builtin;refine wpList_app1 _ rfl _ _ 51 rfl 0 3 Tryz.underlying51 hi0 hz0 hz1 hz2 rfl hrow rfl rfl rfl n2 m2 (Nat.zero_le _) ?_;intro v2 w7 ho hg hn;obtain ⟨AV,cV,rfl,_⟩ := own_slice ho;replace hS2 := Now.grown (pre:=[_,_]) hS2 ho hg (hn.imp id fun h => ⟨_,Nat.le_succ _,h⟩);clear hrow ho hg hn b3 _g;have hyb := Now.blk (pre:=[]) hS2;have b3 : w7.cell? ⟨y,3,none⟩ = some (Value.slice A2 T.lens.length k2) := hyb.cell 3;have b4 : w7.cell? ⟨y,4,none⟩ = some (Value.slice A3 T.firsts.length k3) := hyb.cell 4;have f3 := hyb.frozen 3;replace hS2 := Now.set_ (pre:=[]) hS2 3 (.slice AV (T.lens.length + 1) cV);have hrow := Now.row (pre:=[_,_,_]) hS2;clear hyb)
            | (at_builtin;refine wpList_app1s _ rfl _ _ 62 rfl 0 43 Tryz.underlying62 hj0 hy0 hy1 hy2 rfl hrow rfl (by simp [World.setCell]) rfl rfl n3 m3 (Nat.zero_le _) ?_;intro v3 w8 ho hg hn;obtain ⟨AW,cW,rfl,_⟩ := own_slice ho;replace hS2 := Now.grown (pre:=[_,_,_]) hS2 ho hg (hn.imp id fun h => ⟨_,Nat.le_succ _,h⟩);clear hrow ho hg hn b3 b4 f3;have hyb := Now.blk (pre:=[]) hS2;have d0 : w8.cell? ⟨y,0,none⟩ = some (Value.int .i64 T.segs) := hyb.cell 0;have d1 : w8.cell? ⟨y,1,none⟩ = some (Value.int .i64 T.slots) := hyb.cell 1;have d2 : w8.cell? ⟨y,2,none⟩ = some (Value.slice (some ⟨gO,0,none⟩) (T.order.length + 1) capO) := hyb.cell 2;have d3 : w8.cell? ⟨y,3,none⟩ = some (Value.slice AV (T.lens.length + 1) cV) := hyb.cell 3;have d4 : w8.cell? ⟨y,4,none⟩ = some (Value.slice A3 T.firsts.length k3) := hyb.cell 4;have f4 := hyb.frozen 4;have hr := Now.blk (pre:=[_,_,_,_]) hS2;have fr := fun k => hr.frozen k;have r0 : w8.cell? ⟨w.heap.size + 1,0,none⟩ = some (Value.int .i64 0) := hr.cell 0;have r1 : w8.cell? ⟨w.heap.size + 1,1,none⟩ = some (Value.int .i64 0) := hr.cell 1;have r2 : w8.cell? ⟨w.heap.size + 1,2,none⟩ = some (Value.slice none 0 0) := hr.cell 2;have r3 : w8.cell? ⟨w.heap.size + 1,3,none⟩ = some (Value.slice none 0 0) := hr.cell 3;have r4 : w8.cell? ⟨w.heap.size + 1,4,none⟩ = some (Value.slice none 0 0) := hr.cell 4;have hne1 : w.heap.size + 1 ≠ y := fun e => hYN.out e.symm;have hne2 : y ≠ w.heap.size + 1 := hYN.out;replace hS2 := Lib.hid (Now.set5 (pre:=[_,_,_,_]) (Now.set_ (pre:=[]) hS2 4 (.slice AW (T.firsts.length + 1) cW)) (.int .i64 T.segs) (.int .i64 T.slots) (.slice (some ⟨gO,0,none⟩) (T.order.length + 1) capO) (.slice AV (T.lens.length + 1) cV) (.slice AW (T.firsts.length + 1) cW));clear hyb hr))
          refine bodyPost_ret (v := .tuple #[.agg #[.int .i64 T.segs, .int .i64 T.slots, .slice (some ⟨gO,0,none⟩) (T.order.length + 1) capO, .slice AV (T.lens.length + 1) cV, .slice AW (T.firsts.length + 1) cW], .int .i64 0]) ?_ rfl ⟨some ⟨gO,0,none⟩,capO,AV,cV,AW,cW,by show _ = Ending.returned (.tuple #[.agg #[_,_, .slice _ (T.order ++ [f]).length _, .slice _ (T.lens ++ [0]).length _, .slice _ (T.firsts ++ [first]).length _],_]);rw [List.length_append,List.length_append,List.length_append];rfl,?_⟩
          · exact results_row_tmp rfl _ _ _ _ _ _ _ (by simp) (by simp) (Now.blk (pre:=[_,_,_,_]) hS2.out) Tryz.underlying71 rfl (by kernel_rfl)
          · have h12 := Now.drop (pre:=[_,_,_]) (Now.drop (pre:=[_,_,_]) (Now.drop (pre:=[]) hS2.out))
            show Sep w _ [Thing.row _ 1 (.slice _ (T.order ++ [f]).length _) (T.order ++ [f]).length (ints (T.order ++ [f])),Thing.row _ 1 (.slice _ (T.lens ++ [0]).length _) (T.lens ++ [0]).length (ints (T.lens ++ [0])),Thing.row _ 1 (.slice _ (T.firsts ++ [first]).length _) (T.firsts ++ [first]).length (u64s (T.firsts ++ [first]))]
            rw [List.length_append,List.length_append,List.length_append]
            unfold ints u64s
            rw [List.map_append,List.map_append,List.map_append]
            exact h12
    · refine ⟨_,rfl,?_⟩
      intro w1 h1 K hK
      replace hS := Now.below hS h1
      have hyne : w1.heap.size ≠ w.heap.size + 1 := fun e => absurd (Now.blk (pre:=[_]) hS).lt (by rw [e];exact Nat.lt_irrefl _)
      replace hS := Now.pushCells hS 71 #[.int .i64 0, .int .i64 0, .slice none 0 0, .slice none 0 0, .slice none 0 0]
      go_simp
      refine hK _ _ (fun _ hg => ⟨Below.heap_alloc _ _ _ hg,by simp⟩) ?_
      clear hK K h1
      try simp only [Act.put,sqA,sqB,sqC]
      generalize w1.alloc (.cells #[.int .i64 0, .int .i64 0, .slice none 0 0, .slice none 0 0, .slice none 0 0] 71) = wa at hS ⊢
      generalize w1.heap.size = y at hS hyne ⊢
      refine wpAnyE_fork [3] (by kernel_rfl) (by simp) ?_
      refine sqM ?_
      · refine ⟨_,rfl,?_⟩
        intro w1 h1 K hK
        replace hS := Now.below hS h1
        go_simp
        go_at_call 142
        refine (hown w1 (Sep.base hS)).mono ?_
        rintro e w3 ⟨A1,k1,A2,k2,A3,k3,rfl,hO⟩
        refine hK _ _ (fun _ hg => ⟨(Sep.base hO).block _ hg,hO.size⟩) ?_
        replace hS := Now.pushAll hS hO
        clear hK K h1 hO
        try simp only [Act.put,sqA,sqB,sqC]
        apply wpAnyE_pure (KeepG.grow w.heap.size) 5
        · kernel_rfl
        · intro _ _ d _ _ h;cases d <;> exact h
        · exact rfl
        · kernel_rfl
        · intro wv
          go_simp
          exact ⟨rfl,sqN _⟩
        try simp only [Act.put,sqA,sqB,sqC]
        refine wpAnyE_fork [6] (by kernel_rfl) (by simp) ?_
        refine sqM ?_
        · refine ⟨_,rfl,?_⟩
          intro w1 h1 K hK
          replace hS := Now.below hS h1
          obtain ⟨r0,r1,r2,r3,r4,fr,hS4,hB4⟩ := ref8_set (pre:=[_,_,_]) hS (.int .i64 T.segs) (.int .i64 T.slots) (.slice A1 T.order.length k1) (.slice A2 T.lens.length k2) (.slice A3 T.firsts.length k3)
          have f0 := fr 0
          have f1 := fr 1
          have f2 := fr 2
          have f3 := fr 3
          have f4 := fr 4
          go_simp
          have hbo := Now.blk (pre:=[_,_,_,_,_,_]) hS
          have hbn := Now.blk (pre:=[_,_,_,_,_,_]) hS4
          refine hK _ _ (fun _ _ => ⟨hbn.trans hbo.symm,hB4⟩) ?_
          replace hS := hS4
          clear hK K h1 hS4 hbo hbn r0 r1 r2 r3 r4 fr f0 f1 f2 f3 f4
          try simp only [Act.put,sqA,sqB,sqC]
          replace hS := Now.front (pre:=[_,_,_,_,_,_]) hS
          replace hS := Now.front (pre:=[_,_,_,_,_,_]) hS
          replace hS := Now.front (pre:=[_,_,_,_,_,_]) hS
          replace hS := Now.front (pre:=[_,_,_,_,_]) hS
          replace hS := Now.front (pre:=[_,_,_,_,_]) hS
          replace hS := Now.front (pre:=[_,_,_,_,_]) hS
          replace hS := Now.front (pre:=[_,_,_,_,_,_]) hS
          have hYN := Lib.hid hyne
          refine wpAnyE_end (by kernel_rfl) fun w5 h5 => ?_
          replace hS := Now.below hS h5
          clear h5
          replace hS : Sep w w5 [Thing.cells y 71 (tabCells T A1 k1 A2 k2 A3 k3),Thing.row 3 1 (.slice A1 T.order.length k1) T.order.length (ints T.order),Thing.row 3 1 (.slice A2 T.lens.length k2) T.lens.length (ints T.lens),Thing.row 43 1 (.slice A3 T.firsts.length k3) T.firsts.length (u64s T.firsts),Thing.row 3 1 (.slice FA (T.freeTo N).length fc) (T.freeTo N).length (ints (T.freeTo N)),Thing.cells (w.heap.size + 1) 71 #[.int .i64 0, .int .i64 0, .slice none 0 0, .slice none 0 0, .slice none 0 0],Thing.cells w.heap.size 71 (tabCells T AO cO AL cL AF cF)] := hS
          obtain ⟨fa,e2,hfaB,hfc⟩ := (Reads.of_own (Now.row (pre:=[_,_,_,_]) hS)).2 (by rw [HF.out];exact Nat.succ_pos _)
          subst e2
          have hxz : (ints (T.freeTo N))[0]? = some (.int .i64 f) := by rw [HF.out];rfl
          have hfz := hfc 0 (.int .i64 f) hxz
          obtain ⟨φ,hφ⟩ : ∃ φ,(T.freeTo N).length = φ := ⟨_,rfl⟩
          have hφ4 : 0 < φ := by rw [← hφ,HF.out];exact Nat.succ_pos _
          have hφ3 : ¬ (φ : Int) = 0 := by omega
          have hφ1 : (0 : Int) < (φ : Int) := by omega
          have hφ2 : ((φ : Int) == 0) = false := beq_eq_false_iff_ne.2 hφ3
          rw [hφ] at hS ⊢
          clear hφ hfc hfaB
          go_wp2_with fail
          have hyb := Now.blk (pre:=[]) hS
          have HB : y < w5.drew.heap.size := hyb.lt
          have hcell : ∀ w1 : World,((y < w5.drew.heap.size → w1.heap[y]? = w5.drew.heap[y]? ∧ w5.drew.heap.size ≤ w1.heap.size) ∧ (w5.drew.heap.size ≤ w1.heap.size ∧ ∀ v,w5.drew.cell? (fa.add 0) = some v → w1.cell? (fa.add 0) = some v)) → w1.cell? ⟨y,2,none⟩ = some (.slice A1 T.order.length k1) ∧ w1.cell? fa = some (.int .i64 f) := fun w1 h1 => by
            have hb1 : Blk w1 y 71 (tabCells T A1 k1 A2 k2 A3 k3) := (h1.1 HB).1.trans hyb
            exact ⟨hb1.cell 2,h1.2.2 _ hfz⟩
          replace hS := hS.drew
          refine wp_region_takes ((KeepG.grow y).and (KeepC.grow (fa.add 0))) [8] [(0,false),(1,false),(2,false),(3,false),(4,false)] 4 (by kernel_rfl) (by kernel_rfl) rfl (by kernel_rfl) (by intro _ _ d _ _ h;cases d <;> exact h) ?_
          iterate 5
            (apply wpTakes_take
             · exact rfl
             · intro w1v hR1
               (obtain ⟨c2,cf⟩ := hcell w1v hR1)
               go_simp
               first
                 | with_reducible exact ⟨rfl,sqN _⟩
             simp only [Act.put,sqA,sqB,sqC])
          refine wpTakes_done ?_
          clear hcell hyb HB
          generalize w5.drew = wd at hS hfz ⊢
          refine wpAnyE_fork [5] (by kernel_rfl) (by simp) ?_
          refine sqM ?_
          refine ⟨_,rfl,?_⟩
          intro w1 h1 K hK
          have hSn := Now.pushCells (Now.below hS h1) 3 #[.int .i64 f]
          go_simp
          refine hK _ _ (fun _ => ((KeepG.grow y).and (KeepC.grow (fa.add 0))).sub _ _ ((Newer.refl w1).alloc _)) ?_
          replace hS := hSn
          clear hSn hK K h1 hfz
          try simp only [Act.put,sqA,sqB,sqC]
          generalize w1.alloc (.cells #[.int .i64 f] 3) = we at hS ⊢
          generalize w1.heap.size = kb at hS ⊢
          clear w1
          refine wpAnyE_fork [6] (by kernel_rfl) (by simp) ?_
          refine sqM ?_
          refine ⟨_,rfl,?_⟩
          intro w1 h1 K hK
          replace hS := Now.below hS h1
          refine wp_app_now _ _ 51 3 rfl Tryz.underlying51 hi0 hz0 hz1 hz2 rfl (pre:=[_,_]) hS (Now.blk (pre:=[]) hS) rfl rfl rfl n1 m1 ?_
          intro gO capO wf hz hS2
          have q1 := row_first (Now.row (pre:=[_,_,_,_,_]) hS) hφ4 hxz
          have q2 := row_first (Now.row (pre:=[_,_,_,_,_]) hS2) hφ4 hxz
          refine hK _ _ (fun _ => ⟨fun _ => ⟨(Now.blk (pre:=[_]) hS2).trans (Now.blk (pre:=[_]) hS).symm,hz⟩,hz,fun v hv => q2.trans (q1.symm.trans hv)⟩) ?_
          replace hS := hS2
          clear hS2 hz hK K h1 q1 q2
          try simp only [Act.put,sqA,sqB,sqC]
          clear w1
          apply wpAnyE_pure ((KeepG.grow y).and (KeepC.grow (fa.add 0))) 7
          · kernel_rfl
          · intro _ _ d _ _ h;cases d <;> exact h
          · exact rfl
          · kernel_rfl
          · intro w1
            go_simp
            exact ⟨rfl,sqN _⟩
          try simp only [Act.put,sqA,sqB,sqC]
          refine wpAnyE_fork [8] (by kernel_rfl) (by simp) ?_
          refine sqM ?_
          refine ⟨_,rfl,?_⟩
          intro w1 h1 K hK
          replace hS := Now.below hS h1
          have hyb := Now.blk (pre:=[_]) hS
          have b2 : _ = some (Value.slice A1 T.order.length k1) := hyb.cell 2
          have f2 := hyb.frozen 2
          go_simp
          refine hK _ _ (fun h => absurd (by simp) h) ?_
          have hS2 := Now.drop (pre:=[_,_,_,_]) (Now.drop (pre:=[]) (Now.set_ (pre:=[_]) hS 2 (.slice (some ⟨gO,0,none⟩) (T.order.length + 1) capO)))
          clear hK K h1 hS hyb b2 f2
          try simp only [Act.put,sqA,sqB,sqC]
          generalize w1.setCell ⟨y,2,none⟩ (.slice (some ⟨gO,0,none⟩) (T.order.length + 1) capO) = wg at hS2 ⊢
          clear w1
          refine wpAnyE_end (by kernel_rfl) fun w6 h6 => ?_
          replace hS2 := Now.below hS2 h6
          clear h6
          have hyb := Now.blk (pre:=[]) hS2
          have b3 : w6.cell? ⟨y,3,none⟩ = some (Value.slice A2 T.lens.length k2) := hyb.cell 3
          have hrow := Now.row (pre:=[_,_]) hS2
          clear hyb
          go_wp2_with (first
            | (have _g := b3;at_builtin;refine wpList_app1 _ rfl _ _ 51 rfl 0 3 Tryz.underlying51 hi0 hz0 hz1 hz2 rfl hrow rfl rfl rfl n2 m2 (Nat.zero_le _) ?_;intro v2 w7 ho hg hn;obtain ⟨AV,cV,rfl,_⟩ := own_slice ho;replace hS2 := Now.grown (pre:=[_,_]) hS2 ho hg (hn.imp id fun h => ⟨_,Nat.le_succ _,h⟩);clear hrow ho hg hn b3 _g;have hyb := Now.blk (pre:=[]) hS2;have b3 : w7.cell? ⟨y,3,none⟩ = some (Value.slice A2 T.lens.length k2) := hyb.cell 3;have b4 : w7.cell? ⟨y,4,none⟩ = some (Value.slice A3 T.firsts.length k3) := hyb.cell 4;have f3 := hyb.frozen 3;replace hS2 := Now.set_ (pre:=[]) hS2 3 (.slice AV (T.lens.length + 1) cV);have hrow := Now.row (pre:=[_,_,_]) hS2;clear hyb)
            | (at_builtin;refine wpList_app1s _ rfl _ _ 62 rfl 0 43 Tryz.underlying62 hj0 hy0 hy1 hy2 rfl hrow rfl (by simp [World.setCell]) rfl rfl n3 m3 (Nat.zero_le _) ?_;intro v3 w8 ho hg hn;obtain ⟨AW,cW,rfl,_⟩ := own_slice ho;replace hS2 := Now.grown (pre:=[_,_,_]) hS2 ho hg (hn.imp id fun h => ⟨_,Nat.le_succ _,h⟩);clear hrow ho hg hn b3 b4 f3;have hyb := Now.blk (pre:=[]) hS2;have d0 : w8.cell? ⟨y,0,none⟩ = some (Value.int .i64 T.segs) := hyb.cell 0;have d1 : w8.cell? ⟨y,1,none⟩ = some (Value.int .i64 T.slots) := hyb.cell 1;have d2 : w8.cell? ⟨y,2,none⟩ = some (Value.slice (some ⟨gO,0,none⟩) (T.order.length + 1) capO) := hyb.cell 2;have d3 : w8.cell? ⟨y,3,none⟩ = some (Value.slice AV (T.lens.length + 1) cV) := hyb.cell 3;have d4 : w8.cell? ⟨y,4,none⟩ = some (Value.slice A3 T.firsts.length k3) := hyb.cell 4;have f4 := hyb.frozen 4;have hr := Now.blk (pre:=[_,_,_,_]) hS2;have fr := fun k => hr.frozen k;have r0 : w8.cell? ⟨w.heap.size + 1,0,none⟩ = some (Value.int .i64 0) := hr.cell 0;have r1 : w8.cell? ⟨w.heap.size + 1,1,none⟩ = some (Value.int .i64 0) := hr.cell 1;have r2 : w8.cell? ⟨w.heap.size + 1,2,none⟩ = some (Value.slice none 0 0) := hr.cell 2;have r3 : w8.cell? ⟨w.heap.size + 1,3,none⟩ = some (Value.slice none 0 0) := hr.cell 3;have r4 : w8.cell? ⟨w.heap.size + 1,4,none⟩ = some (Value.slice none 0 0) := hr.cell 4;have hne1 : w.heap.size + 1 ≠ y := fun e => hYN.out e.symm;have hne2 : y ≠ w.heap.size + 1 := hYN.out;replace hS2 := Lib.hid (Now.set5 (pre:=[_,_,_,_]) (Now.set_ (pre:=[]) hS2 4 (.slice AW (T.firsts.length + 1) cW)) (.int .i64 T.segs) (.int .i64 T.slots) (.slice (some ⟨gO,0,none⟩) (T.order.length + 1) capO) (.slice AV (T.lens.length + 1) cV) (.slice AW (T.firsts.length + 1) cW));clear hyb hr))
          refine bodyPost_ret (v := .tuple #[.agg #[.int .i64 T.segs, .int .i64 T.slots, .slice (some ⟨gO,0,none⟩) (T.order.length + 1) capO, .slice AV (T.lens.length + 1) cV, .slice AW (T.firsts.length + 1) cW], .int .i64 0]) ?_ rfl ⟨some ⟨gO,0,none⟩,capO,AV,cV,AW,cW,by show _ = Ending.returned (.tuple #[.agg #[_,_, .slice _ (T.order ++ [f]).length _, .slice _ (T.lens ++ [0]).length _, .slice _ (T.firsts ++ [first]).length _],_]);rw [List.length_append,List.length_append,List.length_append];rfl,?_⟩
          · exact results_row_tmp rfl _ _ _ _ _ _ _ (by simp) (by simp) (Now.blk (pre:=[_,_,_,_]) hS2.out) Tryz.underlying71 rfl (by kernel_rfl)
          · have h12 := Now.drop (pre:=[_,_,_]) (Now.drop (pre:=[_,_,_]) (Now.drop (pre:=[]) hS2.out))
            show Sep w _ [Thing.row _ 1 (.slice _ (T.order ++ [f]).length _) (T.order ++ [f]).length (ints (T.order ++ [f])),Thing.row _ 1 (.slice _ (T.lens ++ [0]).length _) (T.lens ++ [0]).length (ints (T.lens ++ [0])),Thing.row _ 1 (.slice _ (T.firsts ++ [first]).length _) (T.firsts ++ [first]).length (u64s (T.firsts ++ [first]))]
            rw [List.length_append,List.length_append,List.length_append]
            unfold ints u64s
            rw [List.map_append,List.map_append,List.map_append]
            exact h12
  · refine ⟨_,rfl,?_⟩
    intro w1 h1 K hK
    replace hS := Now.below hS h1
    have hyne : w1.heap.size ≠ w.heap.size + 1 := fun e => absurd (Now.blk (pre:=[]) hS).lt (by rw [e];exact Nat.lt_irrefl _)
    replace hS := Now.pushCells hS 71 #[.int .i64 0, .int .i64 0, .slice none 0 0, .slice none 0 0, .slice none 0 0]
    go_simp
    refine hK _ _ (fun _ hg => ⟨Below.heap_alloc _ _ _ hg,by simp⟩) ?_
    clear hK K h1
    try simp only [Act.put,sqA,sqB,sqC]
    generalize w1.alloc (.cells #[.int .i64 0, .int .i64 0, .slice none 0 0, .slice none 0 0, .slice none 0 0] 71) = wa at hS ⊢
    generalize w1.heap.size = y at hS hyne ⊢
    refine wpAnyE_fork [1] (by kernel_rfl) (by simp) ?_
    refine sqM ?_
    · refine ⟨_,rfl,?_⟩
      intro w1 h1 K hK
      replace hS := Now.below hS h1
      go_simp
      go_at_call 84
      refine (hfree w1 (Sep.base hS)).mono ?_
      rintro e w2 ⟨FA,fc,rfl,hO⟩
      refine hK _ _ (fun _ hg => ⟨(Sep.base hO).block _ hg,hO.size⟩) ?_
      replace hS := Now.pushAll hS hO
      clear hK K h1 hO
      try simp only [Act.put,sqA,sqB,sqC]
      refine wpAnyE_fork [3] (by kernel_rfl) (by simp) ?_
      refine sqM ?_
      · refine ⟨_,rfl,?_⟩
        intro w1 h1 K hK
        replace hS := Now.below hS h1
        go_simp
        go_at_call 142
        refine (hown w1 (Sep.base hS)).mono ?_
        rintro e w3 ⟨A1,k1,A2,k2,A3,k3,rfl,hO⟩
        refine hK _ _ (fun _ hg => ⟨(Sep.base hO).block _ hg,hO.size⟩) ?_
        replace hS := Now.pushAll hS hO
        clear hK K h1 hO
        try simp only [Act.put,sqA,sqB,sqC]
        apply wpAnyE_pure (KeepG.grow w.heap.size) 5
        · kernel_rfl
        · intro _ _ d _ _ h;cases d <;> exact h
        · exact rfl
        · kernel_rfl
        · intro wv
          go_simp
          exact ⟨rfl,sqN _⟩
        try simp only [Act.put,sqA,sqB,sqC]
        refine wpAnyE_fork [6] (by kernel_rfl) (by simp) ?_
        refine sqM ?_
        · refine ⟨_,rfl,?_⟩
          intro w1 h1 K hK
          replace hS := Now.below hS h1
          obtain ⟨r0,r1,r2,r3,r4,fr,hS4,hB4⟩ := ref8_set (pre:=[_,_,_,_]) hS (.int .i64 T.segs) (.int .i64 T.slots) (.slice A1 T.order.length k1) (.slice A2 T.lens.length k2) (.slice A3 T.firsts.length k3)
          have f0 := fr 0
          have f1 := fr 1
          have f2 := fr 2
          have f3 := fr 3
          have f4 := fr 4
          go_simp
          have hbo := Now.blk (pre:=[_,_,_,_,_,_]) hS
          have hbn := Now.blk (pre:=[_,_,_,_,_,_]) hS4
          refine hK _ _ (fun _ _ => ⟨hbn.trans hbo.symm,hB4⟩) ?_
          replace hS := hS4
          clear hK K h1 hS4 hbo hbn r0 r1 r2 r3 r4 fr f0 f1 f2 f3 f4
          try simp only [Act.put,sqA,sqB,sqC]
          replace hS := Now.front (pre:=[_,_,_,_,_,_]) hS
          replace hS := Now.front (pre:=[_,_,_,_,_,_]) hS
          replace hS := Now.front (pre:=[_,_,_,_,_]) hS
          replace hS := Now.front (pre:=[_,_,_,_,_]) hS
          replace hS := Now.front (pre:=[_,_,_,_,_]) hS
          replace hS := Now.front (pre:=[_,_,_,_,_]) hS
          replace hS := Now.front (pre:=[_,_,_,_,_,_]) hS
          have hYN := Lib.hid hyne
          refine wpAnyE_end (by kernel_rfl) fun w5 h5 => ?_
          replace hS := Now.below hS h5
          clear h5
          replace hS : Sep w w5 [Thing.cells y 71 (tabCells T A1 k1 A2 k2 A3 k3),Thing.row 3 1 (.slice A1 T.order.length k1) T.order.length (ints T.order),Thing.row 3 1 (.slice A2 T.lens.length k2) T.lens.length (ints T.lens),Thing.row 43 1 (.slice A3 T.firsts.length k3) T.firsts.length (u64s T.firsts),Thing.row 3 1 (.slice FA (T.freeTo N).length fc) (T.freeTo N).length (ints (T.freeTo N)),Thing.cells (w.heap.size + 1) 71 #[.int .i64 0, .int .i64 0, .slice none 0 0, .slice none 0 0, .slice none 0 0],Thing.cells w.heap.size 71 (tabCells T AO cO AL cL AF cF)] := hS
          obtain ⟨fa,e2,hfaB,hfc⟩ := (Reads.of_own (Now.row (pre:=[_,_,_,_]) hS)).2 (by rw [HF.out];exact Nat.succ_pos _)
          subst e2
          have hxz : (ints (T.freeTo N))[0]? = some (.int .i64 f) := by rw [HF.out];rfl
          have hfz := hfc 0 (.int .i64 f) hxz
          obtain ⟨φ,hφ⟩ : ∃ φ,(T.freeTo N).length = φ := ⟨_,rfl⟩
          have hφ4 : 0 < φ := by rw [← hφ,HF.out];exact Nat.succ_pos _
          have hφ3 : ¬ (φ : Int) = 0 := by omega
          have hφ1 : (0 : Int) < (φ : Int) := by omega
          have hφ2 : ((φ : Int) == 0) = false := beq_eq_false_iff_ne.2 hφ3
          rw [hφ] at hS ⊢
          clear hφ hfc hfaB
          go_wp2_with fail
          have hyb := Now.blk (pre:=[]) hS
          have HB : y < w5.drew.heap.size := hyb.lt
          have hcell : ∀ w1 : World,((y < w5.drew.heap.size → w1.heap[y]? = w5.drew.heap[y]? ∧ w5.drew.heap.size ≤ w1.heap.size) ∧ (w5.drew.heap.size ≤ w1.heap.size ∧ ∀ v,w5.drew.cell? (fa.add 0) = some v → w1.cell? (fa.add 0) = some v)) → w1.cell? ⟨y,2,none⟩ = some (.slice A1 T.order.length k1) ∧ w1.cell? fa = some (.int .i64 f) := fun w1 h1 => by
            have hb1 : Blk w1 y 71 (tabCells T A1 k1 A2 k2 A3 k3) := (h1.1 HB).1.trans hyb
            exact ⟨hb1.cell 2,h1.2.2 _ hfz⟩
          replace hS := hS.drew
          refine wp_region_takes ((KeepG.grow y).and (KeepC.grow (fa.add 0))) [8] [(0,false),(1,false),(2,false),(3,false),(4,false)] 4 (by kernel_rfl) (by kernel_rfl) rfl (by kernel_rfl) (by intro _ _ d _ _ h;cases d <;> exact h) ?_
          iterate 5
            (apply wpTakes_take
             · exact rfl
             · intro w1v hR1
               (obtain ⟨c2,cf⟩ := hcell w1v hR1)
               go_simp
               first
                 | with_reducible exact ⟨rfl,sqN _⟩
             simp only [Act.put,sqA,sqB,sqC])
          refine wpTakes_done ?_
          clear hcell hyb HB
          generalize w5.drew = wd at hS hfz ⊢
          refine wpAnyE_fork [5] (by kernel_rfl) (by simp) ?_
          refine sqM ?_
          refine ⟨_,rfl,?_⟩
          intro w1 h1 K hK
          have hSn := Now.pushCells (Now.below hS h1) 3 #[.int .i64 f]
          go_simp
          refine hK _ _ (fun _ => ((KeepG.grow y).and (KeepC.grow (fa.add 0))).sub _ _ ((Newer.refl w1).alloc _)) ?_
          replace hS := hSn
          clear hSn hK K h1 hfz
          try simp only [Act.put,sqA,sqB,sqC]
          generalize w1.alloc (.cells #[.int .i64 f] 3) = we at hS ⊢
          generalize w1.heap.size = kb at hS ⊢
          clear w1
          refine wpAnyE_fork [6] (by kernel_rfl) (by simp) ?_
          refine sqM ?_
          refine ⟨_,rfl,?_⟩
          intro w1 h1 K hK
          replace hS := Now.below hS h1
          refine wp_app_now _ _ 51 3 rfl Tryz.underlying51 hi0 hz0 hz1 hz2 rfl (pre:=[_,_]) hS (Now.blk (pre:=[]) hS) rfl rfl rfl n1 m1 ?_
          intro gO capO wf hz hS2
          have q1 := row_first (Now.row (pre:=[_,_,_,_,_]) hS) hφ4 hxz
          have q2 := row_first (Now.row (pre:=[_,_,_,_,_]) hS2) hφ4 hxz
          refine hK _ _ (fun _ => ⟨fun _ => ⟨(Now.blk (pre:=[_]) hS2).trans (Now.blk (pre:=[_]) hS).symm,hz⟩,hz,fun v hv => q2.trans (q1.symm.trans hv)⟩) ?_
          replace hS := hS2
          clear hS2 hz hK K h1 q1 q2
          try simp only [Act.put,sqA,sqB,sqC]
          clear w1
          apply wpAnyE_pure ((KeepG.grow y).and (KeepC.grow (fa.add 0))) 7
          · kernel_rfl
          · intro _ _ d _ _ h;cases d <;> exact h
          · exact rfl
          · kernel_rfl
          · intro w1
            go_simp
            exact ⟨rfl,sqN _⟩
          try simp only [Act.put,sqA,sqB,sqC]
          refine wpAnyE_fork [8] (by kernel_rfl) (by simp) ?_
          refine sqM ?_
          refine ⟨_,rfl,?_⟩
          intro w1 h1 K hK
          replace hS := Now.below hS h1
          have hyb := Now.blk (pre:=[_]) hS
          have b2 : _ = some (Value.slice A1 T.order.length k1) := hyb.cell 2
          have f2 := hyb.frozen 2
          go_simp
          refine hK _ _ (fun h => absurd (by simp) h) ?_
          have hS2 := Now.drop (pre:=[_,_,_,_]) (Now.drop (pre:=[]) (Now.set_ (pre:=[_]) hS 2 (.slice (some ⟨gO,0,none⟩) (T.order.length + 1) capO)))
          clear hK K h1 hS hyb b2 f2
          try simp only [Act.put,sqA,sqB,sqC]
          generalize w1.setCell ⟨y,2,none⟩ (.slice (some ⟨gO,0,none⟩) (T.order.length + 1) capO) = wg at hS2 ⊢
          clear w1
          refine wpAnyE_end (by kernel_rfl) fun w6 h6 => ?_
          replace hS2 := Now.below hS2 h6
          clear h6
          have hyb := Now.blk (pre:=[]) hS2
          have b3 : w6.cell? ⟨y,3,none⟩ = some (Value.slice A2 T.lens.length k2) := hyb.cell 3
          have hrow := Now.row (pre:=[_,_]) hS2
          clear hyb
          go_wp2_with (first
            | (have _g := b3;at_builtin;refine wpList_app1 _ rfl _ _ 51 rfl 0 3 Tryz.underlying51 hi0 hz0 hz1 hz2 rfl hrow rfl rfl rfl n2 m2 (Nat.zero_le _) ?_;intro v2 w7 ho hg hn;obtain ⟨AV,cV,rfl,_⟩ := own_slice ho;replace hS2 := Now.grown (pre:=[_,_]) hS2 ho hg (hn.imp id fun h => ⟨_,Nat.le_succ _,h⟩);clear hrow ho hg hn b3 _g;have hyb := Now.blk (pre:=[]) hS2;have b3 : w7.cell? ⟨y,3,none⟩ = some (Value.slice A2 T.lens.length k2) := hyb.cell 3;have b4 : w7.cell? ⟨y,4,none⟩ = some (Value.slice A3 T.firsts.length k3) := hyb.cell 4;have f3 := hyb.frozen 3;replace hS2 := Now.set_ (pre:=[]) hS2 3 (.slice AV (T.lens.length + 1) cV);have hrow := Now.row (pre:=[_,_,_]) hS2;clear hyb)
            | (at_builtin;refine wpList_app1s _ rfl _ _ 62 rfl 0 43 Tryz.underlying62 hj0 hy0 hy1 hy2 rfl hrow rfl (by simp [World.setCell]) rfl rfl n3 m3 (Nat.zero_le _) ?_;intro v3 w8 ho hg hn;obtain ⟨AW,cW,rfl,_⟩ := own_slice ho;replace hS2 := Now.grown (pre:=[_,_,_]) hS2 ho hg (hn.imp id fun h => ⟨_,Nat.le_succ _,h⟩);clear hrow ho hg hn b3 b4 f3;have hyb := Now.blk (pre:=[]) hS2;have d0 : w8.cell? ⟨y,0,none⟩ = some (Value.int .i64 T.segs) := hyb.cell 0;have d1 : w8.cell? ⟨y,1,none⟩ = some (Value.int .i64 T.slots) := hyb.cell 1;have d2 : w8.cell? ⟨y,2,none⟩ = some (Value.slice (some ⟨gO,0,none⟩) (T.order.length + 1) capO) := hyb.cell 2;have d3 : w8.cell? ⟨y,3,none⟩ = some (Value.slice AV (T.lens.length + 1) cV) := hyb.cell 3;have d4 : w8.cell? ⟨y,4,none⟩ = some (Value.slice A3 T.firsts.length k3) := hyb.cell 4;have f4 := hyb.frozen 4;have hr := Now.blk (pre:=[_,_,_,_]) hS2;have fr := fun k => hr.frozen k;have r0 : w8.cell? ⟨w.heap.size + 1,0,none⟩ = some (Value.int .i64 0) := hr.cell 0;have r1 : w8.cell? ⟨w.heap.size + 1,1,none⟩ = some (Value.int .i64 0) := hr.cell 1;have r2 : w8.cell? ⟨w.heap.size + 1,2,none⟩ = some (Value.slice none 0 0) := hr.cell 2;have r3 : w8.cell? ⟨w.heap.size + 1,3,none⟩ = some (Value.slice none 0 0) := hr.cell 3;have r4 : w8.cell? ⟨w.heap.size + 1,4,none⟩ = some (Value.slice none 0 0) := hr.cell 4;have hne1 : w.heap.size + 1 ≠ y := fun e => hYN.out e.symm;have hne2 : y ≠ w.heap.size + 1 := hYN.out;replace hS2 := Lib.hid (Now.set5 (pre:=[_,_,_,_]) (Now.set_ (pre:=[]) hS2 4 (.slice AW (T.firsts.length + 1) cW)) (.int .i64 T.segs) (.int .i64 T.slots) (.slice (some ⟨gO,0,none⟩) (T.order.length + 1) capO) (.slice AV (T.lens.length + 1) cV) (.slice AW (T.firsts.length + 1) cW));clear hyb hr))
          refine bodyPost_ret (v := .tuple #[.agg #[.int .i64 T.segs, .int .i64 T.slots, .slice (some ⟨gO,0,none⟩) (T.order.length + 1) capO, .slice AV (T.lens.length + 1) cV, .slice AW (T.firsts.length + 1) cW], .int .i64 0]) ?_ rfl ⟨some ⟨gO,0,none⟩,capO,AV,cV,AW,cW,by show _ = Ending.returned (.tuple #[.agg #[_,_, .slice _ (T.order ++ [f]).length _, .slice _ (T.lens ++ [0]).length _, .slice _ (T.firsts ++ [first]).length _],_]);rw [List.length_append,List.length_append,List.length_append];rfl,?_⟩
          · exact results_row_tmp rfl _ _ _ _ _ _ _ (by simp) (by simp) (Now.blk (pre:=[_,_,_,_]) hS2.out) Tryz.underlying71 rfl (by kernel_rfl)
          · have h12 := Now.drop (pre:=[_,_,_]) (Now.drop (pre:=[_,_,_]) (Now.drop (pre:=[]) hS2.out))
            show Sep w _ [Thing.row _ 1 (.slice _ (T.order ++ [f]).length _) (T.order ++ [f]).length (ints (T.order ++ [f])),Thing.row _ 1 (.slice _ (T.lens ++ [0]).length _) (T.lens ++ [0]).length (ints (T.lens ++ [0])),Thing.row _ 1 (.slice _ (T.firsts ++ [first]).length _) (T.firsts ++ [first]).length (u64s (T.firsts ++ [first]))]
            rw [List.length_append,List.length_append,List.length_append]
            unfold ints u64s
            rw [List.map_append,List.map_append,List.map_append]
            exact h12
end Go.Proofs.YtidacaihmjdmkaaGreat
namespace Go.Proofs.YtidacaihmjdmkaaGreat
open Go.RowKit
attribute [local go_sem high] run_mx run_mn
theorem now8_set {S0 : Nat → Prop} {w v : World} {pre post : List Thing} {y : Nat} (hS : Now S0 w v (pre ++ Thing.cells y 71 #[.int .i64 0, .int .i64 0, .slice none 0 0, .slice none 0 0, .slice none 0 0] :: post)) (x0 x1 x2 x3 x4 : Value) :
    v.cell? ⟨y,0,none⟩ = some (.int .i64 0) ∧ v.cell? ⟨y,1,none⟩ = some (.int .i64 0) ∧ v.cell? ⟨y,2,none⟩ = some (.slice none 0 0) ∧ v.cell? ⟨y,3,none⟩ = some (.slice none 0 0) ∧ v.cell? ⟨y,4,none⟩ = some (.slice none 0 0) ∧ (∀ k,v.frozen? ⟨y,k,none⟩ = false) ∧
    Now S0 w (((((v.setCell ⟨y,0,none⟩ x0).setCell ⟨y,1,none⟩ x1).setCell ⟨y,2,none⟩ x2).setCell ⟨y,3,none⟩ x3).setCell ⟨y,4,none⟩ x4) (pre ++ Thing.cells y 71 #[x0,x1,x2,x3,x4] :: post) ∧
    v.heap.size ≤ (((((v.setCell ⟨y,0,none⟩ x0).setCell ⟨y,1,none⟩ x1).setCell ⟨y,2,none⟩ x2).setCell ⟨y,3,none⟩ x3).setCell ⟨y,4,none⟩ x4).heap.size := by
  have hb := Now.blk hS
  exact ⟨hb.cell 0,hb.cell 1,hb.cell 2,hb.cell 3,hb.cell 4,fun k => hb.frozen k,Now.set5 hS x0 x1 x2 x3 x4,by simp [World.setCell]⟩
def GotR (S0 : Nat → Prop) (w0 w' : World) (s : LSt) (g gd : Nat) (epoch : Int) (L : List Thing) : Prop := ∃ r A1 k1 A2 k2 A3 k3,Rel s.d r ∧ Now S0 w0 w' (rlogParts g gd s.T A1 k1 A2 k2 A3 k3 s.lsn epoch s.gen r ++ L)
set_option maxHeartbeats 8000000 in
theorem RSeal_any (s : LSt) (hs : s.Ok) (r : RDsk) (hRl : Rel s.d r) (g gd : Nat) (epoch : Int) (he : 0 ≤ epoch ∧ epoch < 4294967296) (AO : Option Addr) (cO : Nat) (AL : Option Addr) (cL : Nat) (AF : Option Addr) (cF : Nat)
    {S0 : Nat → Prop} {w0 w : World} {L : List Thing} (hS : Now S0 w0 w (rlogParts g gd s.T AO cO AL cL AF cF s.lsn epoch s.gen r ++ L)) :
    Calls Tryz.prog 63 #[.pointer (some ⟨g,0,none⟩)] w fun e w' => e = .returned (.int .i64 (s.seal epoch).1) ∧ GotR S0 w0 w' (s.seal epoch).2 g gd epoch L := by
  obtain ⟨T,lsn,gen,d⟩ := s
  have hT : T.Ok := hs.t
  have hlsn : 1 ≤ lsn ∧ lsn < 1000000 := hs.lsn
  have hN : T.segs = (T.segs.toNat : Nat) := hT.segsN
  obtain ⟨N,hNN⟩ : ∃ N,T.segs.toNat = N := ⟨_,rfl⟩
  have hrf : r.Fits := hRl.fits (Nat.le_trans hs.pend (by decide))
  have hRl' : Rel d r := hRl
  unfold LSt.seal
  dsimp only at hS ⊢
  rw [hNN] at hN ⊢
  have hfr := RFree_any T hT N hN AO cO AL cL AF cF w (tabIn_of (pre:=[_]) hS)
  have HN := Lib.hid hN
  clear hN hs hNN hRl
  cases hf : T.freeTo N with
  | nil =>
    rw [hf] at hfr
    have hlog := Now.blk (pre:=[]) hS
    have c1 : _ = some (Value.int .i64 T.segs) := hlog.cell 1
    have c2 : _ = some (Value.int .i64 T.slots) := hlog.cell 2
    have c3 : _ = some (Value.slice AO T.order.length cO) := hlog.cell 3
    have c4 : _ = some (Value.slice AL T.lens.length cL) := hlog.cell 4
    have c5 : _ = some (Value.slice AF T.firsts.length cF) := hlog.cell 5
    clear hlog
    go_enter Tryz.func63,Tryz.ntmps63
    go_wp2_with (go_at_call 84;(with_reducible refine hfr.mono ?_);rintro e w1 ⟨FA,fc,rfl,hO⟩;have hS1 := Now.pushAll hS hO;clear hfr hO hS)
    go_ret
    exact ⟨rfl,r,_,_,_,_,_,_,hRl',Now.drop (pre:=[]) hS1⟩
  | cons f l =>
    have HF := Lib.hid hf
    have hf16 : 0 ≤ f ∧ f < 16 := by
      have := freeTo_in T N f (by rw [hf];simp)
      have := hT.segs
      have := HN.out
      omega
    have hwf : IntKind.u64.wrap f = f := IntWalk.u64_in _ (by omega)
    obtain ⟨φ,hφ⟩ : ∃ φ,(T.freeTo N).length = φ := ⟨_,rfl⟩
    have hφ1 : (0 : Int) < (φ : Int) := by rw [hf] at hφ;simp at hφ;omega
    have hφ2 : ((φ : Int) == 0) = false := beq_eq_false_iff_ne.2 (by omega)
    have hφ3 : ¬ (φ : Int) = 0 := by omega
    rw [hφ] at hfr
    have hints : ints (T.freeTo N) = .int .i64 f :: ints l := by rw [hf];rfl
    have hφ0 : 0 < φ := by omega
    obtain ⟨we,hwe⟩ : ∃ we,r.writeE T.at_ (footR lsn epoch f).sector = we := ⟨_,rfl⟩
    have hrw := hRl'.write T.at_ (footR lsn epoch f).sector
    have hw := fun L' v (h : Now S0 w0 v (rlogParts g gd T AO cO AL cL AF cF lsn epoch gen r ++ L')) => rwrite_any g gd T hT AO cO AL cL AF cF lsn epoch gen (by omega) r hrf (footR 0 0 f) (footR_fits lsn epoch f (by omega) he (by omega)) (footR_right lsn epoch f (by omega) hf16.2) h
    have hE : rollE d T lsn epoch f = we := hrw.1.trans hwe
    dsimp only
    rw [hE]
    have hlog := Now.blk (pre:=[]) hS
    have c1 : _ = some (Value.int .i64 T.segs) := hlog.cell 1
    have c2 : _ = some (Value.int .i64 T.slots) := hlog.cell 2
    have c3 : _ = some (Value.slice AO T.order.length cO) := hlog.cell 3
    have c4 : _ = some (Value.slice AL T.lens.length cL) := hlog.cell 4
    have c5 : _ = some (Value.slice AF T.firsts.length cF) := hlog.cell 5
    have HINTS := Lib.hid hints
    have hH := Lib.hid hrw.2
    clear hlog hf hφ hints hrw hE
    by_cases z1 : we = 0
    case neg =>
      have hw2 := fun L' v h => (hw L' v h).mono (R' := fun e w' => e = .returned (.tuple #[.agg #[.int .i64 0, .int .i64 0], .int .i64 we]) ∧ Now S0 w0 w' (rlogParts g gd T AO cO AL cL AF cF lsn epoch gen r ++ L')) (fun e w' h => h.2 we z1 hwe)
      have hne : (we == 0) = false := beq_eq_false_iff_ne.2 z1
      rw [if_neg z1]
      clear hw hwe
      go_enter Tryz.func63,Tryz.ntmps63
      go_wp2_with (first
        | (go_at_call 84;(with_reducible refine hfr.mono ?_);rintro e w1 ⟨FA,fc,rfl,hO⟩;replace hS := Now.pushAll hS hO;obtain ⟨fa,e2,hfaB,hfc⟩ := (Reads.of_own (Now.row (pre:=[]) hS)).2 hφ0;subst e2;have cf : w1.cell? fa = some (.int .i64 f) := hfc 0 (.int .i64 f) (by rw [HINTS.out];rfl);replace hS := Now.perm hS (List.perm_middle (l₁ := rlogParts g gd T AO cO AL cL AF cF lsn epoch gen r) (l₂ := L)).symm;clear hfr hO hfc c1 c2 c3 c4 c5)
        | (go_at_call 123;(refine (hw2 _ _ hS).mono ?_);rintro e w2 ⟨rfl,hS2⟩;clear hw2 hS cf))
      go_ret
      exact ⟨rfl,r,_,_,_,_,_,_,hRl',Now.drop (pre:=[_,_,_,_,_]) (Now.alloc hS2 _)⟩
    subst z1
    have hw2 := fun L' v h => (hw L' v h).mono (R' := fun e w' => e = .returned (.tuple #[.agg #[.int .i64 T.open_, .int .i64 (T.len T.open_)], .int .i64 0]) ∧ Now S0 w0 w' (rlogParts g gd T AO cO AL cL AF cF (lsn + 1) epoch gen (r.writeS T.at_ (footR lsn epoch f).sector) ++ L')) (fun e w' h => h.1 hwe)
    rw [if_pos rfl]
    clear hw hwe
    go_enter Tryz.func63,Tryz.ntmps63
    go_wp2_with (first
      | (go_at_call 84;(with_reducible refine hfr.mono ?_);rintro e w1 ⟨FA,fc,rfl,hO⟩;replace hS := Now.pushAll hS hO;obtain ⟨fa,e2,hfaB,hfc⟩ := (Reads.of_own (Now.row (pre:=[]) hS)).2 hφ0;subst e2;have cf : w1.cell? fa = some (.int .i64 f) := hfc 0 (.int .i64 f) (by rw [HINTS.out];rfl);replace hS := Now.perm hS (List.perm_middle (l₁ := rlogParts g gd T AO cO AL cL AF cF lsn epoch gen r) (l₂ := L)).symm;clear hfr hO hfc c1 c2 c3 c4 c5)
      | (go_at_call 123;(refine (hw2 _ _ hS).mono ?_);rintro e w2 ⟨rfl,hS2⟩;clear hw2 hS cf;have hS := Now.alloc hS2 (.cells #[.int .i64 T.open_, .int .i64 (T.len T.open_)] 90);clear hS2))
    generalize w2.alloc (.cells #[.int .i64 T.open_, .int .i64 (T.len T.open_)] 90) = w3 at hS ⊢
    have hlog := Now.blk (pre:=[]) hS
    have HB : g < w3.drew.heap.size := hlog.lt
    have hcell : ∀ v,KeepG g w3.drew v → v.cell? ⟨g,1,none⟩ = some (.int .i64 T.segs) ∧ v.cell? ⟨g,2,none⟩ = some (.int .i64 T.slots) ∧ v.cell? ⟨g,3,none⟩ = some (.slice AO T.order.length cO) ∧ v.cell? ⟨g,4,none⟩ = some (.slice AL T.lens.length cL) ∧ v.cell? ⟨g,5,none⟩ = some (.slice AF T.firsts.length cF) ∧ v.cell? ⟨g,6,none⟩ = some (.int .u64 (lsn + 1)) := fun v hv => by
      have hb1 := KeepG.blk (w := w3.drew) hv hlog
      exact ⟨hb1.cell 1,hb1.cell 2,hb1.cell 3,hb1.cell 4,hb1.cell 5,hb1.cell 6⟩
    replace hS := hS.drew
    clear hlog
    refine wp_region_takes (KeepG.grow g) [] [(0,false),(1,false),(2,false),(3,false),(4,false),(5,false),(6,false),(7,false)] 7 (by kernel_rfl) (by kernel_rfl) rfl (by kernel_rfl) (by intro _ _ d _ _ h;cases d <;> exact h) ?_
    iterate 8
      (apply wpTakes_take
       · exact rfl
       · intro w1v hR1
         (obtain ⟨d1,d2,d3,d4,d5,d6⟩ := hcell _ hR1)
         go_simp
         first
           | with_reducible exact ⟨rfl,sqN _⟩
       simp only [Act.put,sqA,sqB,sqC])
    refine wpTakes_done ?_
    clear hcell HB
    generalize w3.drew = wc at hS ⊢
    refine wpAnyE_fork [8,12] (by kernel_rfl) (by simp) ?_
    refine List.forall_mem_cons.2 ⟨?_,List.forall_mem_cons.2 ⟨?_,List.forall_mem_nil _⟩⟩
    · refine ⟨_,rfl,?_⟩
      intro w1 h1 K hK
      replace hS := Now.below hS h1
      go_simp
      go_at_call 86
      refine (RRoll_ok T hT N HN.out f l HF.out (lsn + 1) AO cO AL cL AF cF w1 (tabIn_of (pre:=[_]) hS)).mono ?_
      rintro e w2 ⟨B1,l1,B2,l2,B3,l3,rfl,hO⟩
      have hSn := Now.pushAll hS hO
      refine hK _ _ (fun _ _ => ⟨(Now.blk (pre:=[_,_,_]) hSn).trans (Now.blk (pre:=[]) hS).symm,hO.size⟩) ?_
      replace hS := hSn
      clear hSn hK K h1 hO
      clear w1
      try simp only [Act.put,sqA,sqB,sqC]
      apply wpAnyE_pure (KeepG.grow g) 9
      · kernel_rfl
      · intro _ _ d _ _ h;cases d <;> exact h
      · exact rfl
      · kernel_rfl
      · intro wv
        go_simp
        exact ⟨rfl,sqN _⟩
      try simp only [Act.put,sqA,sqB,sqC]
      apply wpAnyE_pure (KeepG.grow g) 10
      · kernel_rfl
      · intro _ _ d _ _ h;cases d <;> exact h
      · exact rfl
      · kernel_rfl
      · intro wv
        go_simp
        exact ⟨rfl,sqN _⟩
      try simp only [Act.put,sqA,sqB,sqC]
      apply wpAnyE_pure (KeepG.grow g) 11
      · kernel_rfl
      · intro _ _ d _ _ h;cases d <;> exact h
      · exact rfl
      · kernel_rfl
      · intro wv
        go_simp
        exact ⟨rfl,sqN _⟩
      try simp only [Act.put,sqA,sqB,sqC]
      refine wpAnyE_fork [12] (by kernel_rfl) (by simp) ?_
      refine sqM ?_
      · refine ⟨_,rfl,?_⟩
        intro w1 h1 K hK
        replace hS := Now.below hS h1
        have hSn := Now.pushCells hS 71 #[.int .i64 0, .int .i64 0, .slice none 0 0, .slice none 0 0, .slice none 0 0]
        go_simp
        refine hK _ _ (fun _ _ => ⟨(Now.blk (pre:=[_,_,_,_]) hSn).trans (Now.blk (pre:=[_,_,_]) hS).symm,by simp⟩) ?_
        replace hS := hSn
        clear hSn hK K h1
        try simp only [Act.put,sqA,sqB,sqC]
        generalize w1.alloc (.cells #[.int .i64 0, .int .i64 0, .slice none 0 0, .slice none 0 0, .slice none 0 0] 71) = wa at hS ⊢
        generalize w1.heap.size = y at hS ⊢
        clear w1
        refine wpAnyE_fork [13] (by kernel_rfl) (by simp) ?_
        refine sqM ?_
        · refine ⟨_,rfl,?_⟩
          intro w1 h1 K hK
          replace hS := Now.below hS h1
          obtain ⟨r0,r1,r2,r3,r4,fr,hS4,hB4⟩ := now8_set (pre:=[]) hS (.int .i64 (T.roll f (lsn + 1)).segs) (.int .i64 (T.roll f (lsn + 1)).slots) (.slice B1 (T.roll f (lsn + 1)).order.length l1) (.slice B2 (T.roll f (lsn + 1)).lens.length l2) (.slice B3 (T.roll f (lsn + 1)).firsts.length l3)
          have f0 := fr 0
          have f1 := fr 1
          have f2 := fr 2
          have f3 := fr 3
          have f4 := fr 4
          go_simp
          refine hK _ _ (fun _ _ => ⟨(Now.blk (pre:=[_,_,_,_]) hS4).trans (Now.blk (pre:=[_,_,_,_]) hS).symm,hB4⟩) ?_
          replace hS := hS4
          clear hK K h1 hS4 hB4 r0 r1 r2 r3 r4 fr f0 f1 f2 f3 f4
          try simp only [Act.put,sqA,sqB,sqC]
          apply wpAnyE_pure (KeepG.grow g) 14
          · kernel_rfl
          · intro _ _ d _ _ h;cases d <;> exact h
          · exact rfl
          · kernel_rfl
          · intro wv
            go_simp
            exact ⟨rfl,sqN _⟩
          try simp only [Act.put,sqA,sqB,sqC]
          replace hS := Now.front (pre:=[_,_,_,_,_,_,_,_,_]) hS
          replace hS := Now.front (pre:=[_,_,_,_,_,_,_,_,_]) hS
          replace hS := Now.front (pre:=[_,_,_,_,_,_,_,_,_]) hS
          replace hS := Now.front (pre:=[_,_,_,_,_,_,_,_,_]) hS
          replace hS := Now.front (pre:=[_,_,_,_,_,_,_,_,_]) hS
          replace hS := Now.front (pre:=[_,_,_,_,_,_,_,_,_]) hS
          replace hS := Now.front (pre:=[_,_,_,_,_,_,_,_,_]) hS
          replace hS := Now.front (pre:=[_,_,_,_,_,_,_,_,_]) hS
          replace hS := Now.front (pre:=[_,_,_,_,_,_,_,_,_]) hS
          replace hS := Now.front (pre:=[_,_,_,_,_,_,_,_,_]) hS
          refine wpAnyE_end (by kernel_rfl) fun w5 h5 => ?_
          replace hS := Now.below hS h5
          clear h5
          have hyb := Now.blk (pre:=[]) hS
          have b0 : w5.cell? ⟨y,0,none⟩ = some (.int .i64 (T.roll f (lsn + 1)).segs) := hyb.cell 0
          have b1 : w5.cell? ⟨y,1,none⟩ = some (.int .i64 (T.roll f (lsn + 1)).slots) := hyb.cell 1
          have b2 : w5.cell? ⟨y,2,none⟩ = some (.slice B1 (T.roll f (lsn + 1)).order.length l1) := hyb.cell 2
          have b3 : w5.cell? ⟨y,3,none⟩ = some (.slice B2 (T.roll f (lsn + 1)).lens.length l2) := hyb.cell 3
          have b4 : w5.cell? ⟨y,4,none⟩ = some (.slice B3 (T.roll f (lsn + 1)).firsts.length l3) := hyb.cell 4
          have hlog := Now.blk (pre:=[_,_,_,_]) hS
          have c1 : _ = some (Value.int .i64 T.segs) := hlog.cell 1
          have c2 : _ = some (Value.int .i64 T.slots) := hlog.cell 2
          have c3 : _ = some (Value.slice AO T.order.length cO) := hlog.cell 3
          have c4 : _ = some (Value.slice AL T.lens.length cL) := hlog.cell 4
          have c5 : _ = some (Value.slice AF T.firsts.length cF) := hlog.cell 5
          have fl := fun k => hlog.frozen k
          have hlt := hlog.lt
          have hS6 := Lib.hid (Now.set_ (pre:=[_,_,_,_]) (Now.set_ (pre:=[_,_,_,_]) (Now.set_ (pre:=[_,_,_,_]) (Now.set_ (pre:=[_,_,_,_]) (Now.set_ (pre:=[_,_,_,_]) hS 1 (.int .i64 (T.roll f (lsn + 1)).segs)) 2 (.int .i64 (T.roll f (lsn + 1)).slots)) 3 (.slice B1 (T.roll f (lsn + 1)).order.length l1)) 4 (.slice B2 (T.roll f (lsn + 1)).lens.length l2)) 5 (.slice B3 (T.roll f (lsn + 1)).firsts.length l3))
          clear hyb hlog hS
          go_wp2_with fail
          go_ret
          exact ⟨rfl,_,B1,l1,B2,l2,B3,l3,hH.out,Now.front (pre:=[_,_,_]) (Now.drop (pre:=[_,_,_,_,_]) (Now.drop (pre:=[_,_,_,_]) (Now.drop (pre:=[_,_,_,_]) (Now.drop (pre:=[_,_,_,_]) (Now.drop (pre:=[]) hS6.out)))))⟩
    · refine ⟨_,rfl,?_⟩
      intro w1 h1 K hK
      replace hS := Now.below hS h1
      have hSn := Now.pushCells hS 71 #[.int .i64 0, .int .i64 0, .slice none 0 0, .slice none 0 0, .slice none 0 0]
      go_simp
      refine hK _ _ (fun _ _ => ⟨(Now.blk (pre:=[_]) hSn).trans (Now.blk (pre:=[]) hS).symm,by simp⟩) ?_
      replace hS := hSn
      clear hSn hK K h1
      try simp only [Act.put,sqA,sqB,sqC]
      generalize w1.alloc (.cells #[.int .i64 0, .int .i64 0, .slice none 0 0, .slice none 0 0, .slice none 0 0] 71) = wa at hS ⊢
      generalize w1.heap.size = y at hS ⊢
      clear w1
      refine wpAnyE_fork [8] (by kernel_rfl) (by simp) ?_
      refine sqM ?_
      · refine ⟨_,rfl,?_⟩
        intro w1 h1 K hK
        replace hS := Now.below hS h1
        go_simp
        go_at_call 86
        refine (RRoll_ok T hT N HN.out f l HF.out (lsn + 1) AO cO AL cL AF cF w1 (tabIn_of (pre:=[_,_]) hS)).mono ?_
        rintro e w2 ⟨B1,l1,B2,l2,B3,l3,rfl,hO⟩
        have hSn := Now.pushAll hS hO
        refine hK _ _ (fun _ _ => ⟨(Now.blk (pre:=[_,_,_,_]) hSn).trans (Now.blk (pre:=[_]) hS).symm,hO.size⟩) ?_
        replace hS := hSn
        clear hSn hK K h1 hO
        clear w1
        try simp only [Act.put,sqA,sqB,sqC]
        apply wpAnyE_pure (KeepG.grow g) 9
        · kernel_rfl
        · intro _ _ d _ _ h;cases d <;> exact h
        · exact rfl
        · kernel_rfl
        · intro wv
          go_simp
          exact ⟨rfl,sqN _⟩
        try simp only [Act.put,sqA,sqB,sqC]
        apply wpAnyE_pure (KeepG.grow g) 10
        · kernel_rfl
        · intro _ _ d _ _ h;cases d <;> exact h
        · exact rfl
        · kernel_rfl
        · intro wv
          go_simp
          exact ⟨rfl,sqN _⟩
        try simp only [Act.put,sqA,sqB,sqC]
        apply wpAnyE_pure (KeepG.grow g) 11
        · kernel_rfl
        · intro _ _ d _ _ h;cases d <;> exact h
        · exact rfl
        · kernel_rfl
        · intro wv
          go_simp
          exact ⟨rfl,sqN _⟩
        try simp only [Act.put,sqA,sqB,sqC]
        refine wpAnyE_fork [13] (by kernel_rfl) (by simp) ?_
        refine sqM ?_
        · refine ⟨_,rfl,?_⟩
          intro w1 h1 K hK
          replace hS := Now.below hS h1
          obtain ⟨r0,r1,r2,r3,r4,fr,hS4,hB4⟩ := now8_set (pre:=[_,_,_]) hS (.int .i64 (T.roll f (lsn + 1)).segs) (.int .i64 (T.roll f (lsn + 1)).slots) (.slice B1 (T.roll f (lsn + 1)).order.length l1) (.slice B2 (T.roll f (lsn + 1)).lens.length l2) (.slice B3 (T.roll f (lsn + 1)).firsts.length l3)
          have f0 := fr 0
          have f1 := fr 1
          have f2 := fr 2
          have f3 := fr 3
          have f4 := fr 4
          go_simp
          refine hK _ _ (fun _ _ => ⟨(Now.blk (pre:=[_,_,_,_]) hS4).trans (Now.blk (pre:=[_,_,_,_]) hS).symm,hB4⟩) ?_
          replace hS := hS4
          clear hK K h1 hS4 hB4 r0 r1 r2 r3 r4 fr f0 f1 f2 f3 f4
          try simp only [Act.put,sqA,sqB,sqC]
          apply wpAnyE_pure (KeepG.grow g) 14
          · kernel_rfl
          · intro _ _ d _ _ h;cases d <;> exact h
          · exact rfl
          · kernel_rfl
          · intro wv
            go_simp
            exact ⟨rfl,sqN _⟩
          try simp only [Act.put,sqA,sqB,sqC]
          replace hS := Now.front (pre:=[_,_,_,_,_,_,_,_,_]) hS
          replace hS := Now.front (pre:=[_,_,_,_,_,_,_,_,_]) hS
          replace hS := Now.front (pre:=[_,_,_,_,_,_,_,_,_]) hS
          replace hS := Now.front (pre:=[_,_,_,_,_,_,_,_,_]) hS
          replace hS := Now.front (pre:=[_,_,_,_,_,_,_,_,_]) hS
          replace hS := Now.front (pre:=[_,_,_,_,_,_,_,_,_]) hS
          replace hS := Now.front (pre:=[_,_,_,_,_,_,_,_]) hS
          replace hS := Now.front (pre:=[_,_,_,_,_,_,_,_]) hS
          replace hS := Now.front (pre:=[_,_,_,_,_,_,_,_]) hS
          replace hS := Now.front (pre:=[_,_,_,_,_,_,_,_,_]) hS
          refine wpAnyE_end (by kernel_rfl) fun w5 h5 => ?_
          replace hS := Now.below hS h5
          clear h5
          have hyb := Now.blk (pre:=[]) hS
          have b0 : w5.cell? ⟨y,0,none⟩ = some (.int .i64 (T.roll f (lsn + 1)).segs) := hyb.cell 0
          have b1 : w5.cell? ⟨y,1,none⟩ = some (.int .i64 (T.roll f (lsn + 1)).slots) := hyb.cell 1
          have b2 : w5.cell? ⟨y,2,none⟩ = some (.slice B1 (T.roll f (lsn + 1)).order.length l1) := hyb.cell 2
          have b3 : w5.cell? ⟨y,3,none⟩ = some (.slice B2 (T.roll f (lsn + 1)).lens.length l2) := hyb.cell 3
          have b4 : w5.cell? ⟨y,4,none⟩ = some (.slice B3 (T.roll f (lsn + 1)).firsts.length l3) := hyb.cell 4
          have hlog := Now.blk (pre:=[_,_,_,_]) hS
          have c1 : _ = some (Value.int .i64 T.segs) := hlog.cell 1
          have c2 : _ = some (Value.int .i64 T.slots) := hlog.cell 2
          have c3 : _ = some (Value.slice AO T.order.length cO) := hlog.cell 3
          have c4 : _ = some (Value.slice AL T.lens.length cL) := hlog.cell 4
          have c5 : _ = some (Value.slice AF T.firsts.length cF) := hlog.cell 5
          have fl := fun k => hlog.frozen k
          have hlt := hlog.lt
          have hS6 := Lib.hid (Now.set_ (pre:=[_,_,_,_]) (Now.set_ (pre:=[_,_,_,_]) (Now.set_ (pre:=[_,_,_,_]) (Now.set_ (pre:=[_,_,_,_]) (Now.set_ (pre:=[_,_,_,_]) hS 1 (.int .i64 (T.roll f (lsn + 1)).segs)) 2 (.int .i64 (T.roll f (lsn + 1)).slots)) 3 (.slice B1 (T.roll f (lsn + 1)).order.length l1)) 4 (.slice B2 (T.roll f (lsn + 1)).lens.length l2)) 5 (.slice B3 (T.roll f (lsn + 1)).firsts.length l3))
          clear hyb hlog hS
          go_wp2_with fail
          go_ret
          exact ⟨rfl,_,B1,l1,B2,l2,B3,l3,hH.out,Now.front (pre:=[_,_,_]) (Now.drop (pre:=[_,_,_,_,_]) (Now.drop (pre:=[_,_,_,_]) (Now.drop (pre:=[_,_,_,_]) (Now.drop (pre:=[_,_,_,_]) (Now.drop (pre:=[]) hS6.out)))))⟩
end Go.Proofs.YtidacaihmjdmkaaGreat
