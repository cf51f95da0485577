/- What the laws of this seat lean on, part 19. -/
import Derived.Test.YtidacaihmjdmkaaGreatZK17
import Derived.Test.YtidacaihmjdmkaaGreatZK18
import Derived.Test.YtidacaihmjdmkaaGreatZK8
import Derived.Test.YtidacaihmjdmkaaGreatZK6
set_option linter.unusedSimpArgs false
set_option linter.unusedVariables false
set_option maxRecDepth 100000
namespace Go.Proofs.YtidacaihmjdmkaaGreat
open Go.RowKit
attribute [local go_sem high] run_mx run_mn
theorem ref8_set {w v : World} {pre post : List Thing} {y : Nat} (hS : Sep w v (pre ++ Thing.cells y 71 #[.int .i64 0, .int .i64 0, .slice none 0 0, .slice none 0 0, .slice none 0 0] :: post)) (x0 x1 x2 x3 x4 : Value) :
    v.cell? ⟨y,0,none⟩ = some (.int .i64 0) ∧ v.cell? ⟨y,1,none⟩ = some (.int .i64 0) ∧ v.cell? ⟨y,2,none⟩ = some (.slice none 0 0) ∧ v.cell? ⟨y,3,none⟩ = some (.slice none 0 0) ∧ v.cell? ⟨y,4,none⟩ = some (.slice none 0 0) ∧ (∀ k,v.frozen? ⟨y,k,none⟩ = false) ∧
    Sep w (((((v.setCell ⟨y,0,none⟩ x0).setCell ⟨y,1,none⟩ x1).setCell ⟨y,2,none⟩ x2).setCell ⟨y,3,none⟩ x3).setCell ⟨y,4,none⟩ x4) (pre ++ Thing.cells y 71 #[x0,x1,x2,x3,x4] :: post) ∧
    v.heap.size ≤ (((((v.setCell ⟨y,0,none⟩ x0).setCell ⟨y,1,none⟩ x1).setCell ⟨y,2,none⟩ x2).setCell ⟨y,3,none⟩ x3).setCell ⟨y,4,none⟩ x4).heap.size := by
  have hb := Now.blk hS
  exact ⟨hb.cell 0,hb.cell 1,hb.cell 2,hb.cell 3,hb.cell 4,fun k => hb.frozen k,Now.set5 hS x0 x1 x2 x3 x4,by simp [World.setCell]⟩
def KeepC (p : Addr) (w w' : World) : Prop := w.heap.size ≤ w'.heap.size ∧ ∀ v,w.cell? p = some v → w'.cell? p = some v
theorem KeepC.grow (p : Addr) : Grow2 (KeepC p) Newer :=
  ⟨⟨fun _ => ⟨Nat.le_refl _,fun _ h => h⟩,fun _ _ _ h h' => ⟨Nat.le_trans h.1 h'.1,fun v hv => h'.2 v (h.2 v hv)⟩⟩,Newer.grow,fun _ _ h => ⟨h.size,fun v hv => (h.cell (lt_of_cell hv)).trans hv⟩⟩
set_option maxHeartbeats 4000000 in
theorem RRoom_any (T : Tab) (hT : T.Ok) (N : Nat) (hN : T.segs = N) (AO : Option Addr) (cO : Nat) (AL : Option Addr) (cL : Nat) (AF : Option Addr) (cF : Nat) (w : World) (h : TabIn w w.heap.size T AO AL AF) :
    Calls Tryz.prog 51 #[.agg (tabCells T AO cO AL cL AF cF)] w fun e w' => e = .returned (.int .i64 T.room) ∧ Newer w w' := by
  have hp := hT.pos
  have hmn := hT.many
  have hsg := hT.segs
  have hsl := hT.slots
  have hle := hT.le_segs
  have hfl := T.free_length hT N hN
  obtain ⟨hl1,hl2,hl3⟩ := hT.last
  have hlen := hT.len
  obtain ⟨m,hm⟩ : ∃ m : Nat,T.lens.length = m + 1 := ⟨T.lens.length - 1,by omega⟩
  rw [hm,Nat.add_sub_cancel] at hl1
  have h1 := h.alloc (Nat.le_refl _) (.cells (tabCells T AO cO AL cL AF cF) 71)
  obtain ⟨ad,rfl,hadB,hc⟩ := read_cell (k := m) (u := .int .i64 T.last) h1.l (by omega) (by rw [List.getElem?_map,hl1];rfl)
  have hfree := fun v (hv : Below w.heap.size w v) => RFree_any T hT N hN AO cO (some ad) cL AF cF v ((h.below hv).more hv.size)
  obtain ⟨φ,hφ⟩ : ∃ φ,(T.freeTo N).length = φ := ⟨_,rfl⟩
  rw [hφ] at hfl
  simp only [hφ] at hfree
  have hb := Blk.new w 71 (tabCells T AO cO (some ad) cL AF cF)
  have hW : Newer w (w.alloc (.cells (tabCells T AO cO (some ad) cL AF cF) 71)) := (Newer.refl w).alloc _
  have hcell : ∀ w1,Newer (w.alloc (.cells (tabCells T AO cO (some ad) cL AF cF) 71)).drew w1 → w1.cell? ⟨w.heap.size,0,none⟩ = some (.int .i64 T.segs) ∧ w1.cell? ⟨w.heap.size,1,none⟩ = some (.int .i64 T.slots) ∧ w1.cell? ⟨w.heap.size,2,none⟩ = some (.slice AO T.order.length cO) ∧ w1.cell? ⟨w.heap.size,3,none⟩ = some (.slice (some ad) T.lens.length cL) ∧ w1.cell? ⟨w.heap.size,4,none⟩ = some (.slice AF T.firsts.length cF) ∧ w1.cell? (ad.add m) = some (.int .i64 T.last) := fun w1 hw => by
    have hb1 := hb.below hw.undrew hb.lt
    exact ⟨hb1.cell 0,hb1.cell 1,hb1.cell 2,hb1.cell 3,hb1.cell 4,(hw.undrew.cell (by rw [block_of_add];simp;omega)).trans hc⟩
  have hres : T.room = T.slots - T.last + (φ : Int) * T.slots := by
    unfold Tab.room
    rw [show T.segs - T.order.length = (φ : Int) by omega,Int.mul_comm]
  rw [hres]
  have hφ16 : (φ : Int) ≤ 16 := by omega
  have x1 : 0 ≤ (φ : Int) * T.slots := Int.mul_nonneg (by omega) (by omega)
  have x2 : (φ : Int) * T.slots ≤ 16 * 30 := Int.mul_le_mul (by omega) (by omega) (by omega) (by omega)
  have e1 : IntKind.i64.wrap (T.slots - T.last) = T.slots - T.last := IntWalk.i64_in _ (by omega)
  have e2 : IntKind.i64.wrap ((T.lens.length : Int) - 1) = (m : Int) := by rw [IntWalk.i64_in _ (by omega)];omega
  have e3 : IntKind.i64.wrap ((φ : Int) * T.slots) = (φ : Int) * T.slots := IntWalk.i64_in _ (by omega)
  have e4 : IntKind.i64.wrap (T.slots - T.last + (φ : Int) * T.slots) = T.slots - T.last + (φ : Int) * T.slots := IntWalk.i64_in _ (by omega)
  have hm1 : (m : Int) < (T.lens.length : Int) := by omega
  clear hlen h1 h hT hm hl1 hc hb hN hsg hle hp hmn hfl hφ hres
  go_enter Tryz.func51,Tryz.ntmps51
  go_wp2_with fail
  refine wp_region_ord Newer.grow [(0,true),(1,true),(2,true),(3,true),(4,true),(5,true),(6,true),(7,true),(8,true),(9,true),(10,true),(11,true),(14,true),(15,true),(12,false),(13,true),(16,true),(17,true),(18,true)] [] (by kernel_rfl) (by kernel_rfl) rfl (by kernel_rfl) (by intro _ _ d _ _ h;cases d <;> exact h) ?_
  iterate 14
    (apply wpOrd_take
     · exact rfl
     · intro w1 h1
       (obtain ⟨c0,c1,c2,c3,c4,c5⟩ := hcell w1 h1)
       go_simp
       first
         | with_reducible exact ⟨rfl,sqN _⟩
     simp only [Act.put,sqA,sqB,sqC])
  refine wpOrd_do rfl ?_
  intro w4 h4 K hK
  go_simp
  go_at_call 84
  refine (hfree w4 (hW.trans h4.undrew)).mono ?_
  rintro e w5 ⟨FA,fc,rfl,hO⟩
  refine hK _ _ (Sep.base hO) ?_
  clear hK K hfree hcell
  iterate 4
    (apply wpOrd_take
     · exact rfl
     · intro w1 h1
       (skip)
       go_simp
       first
         | with_reducible exact ⟨rfl,sqN _⟩
     simp only [Act.put,sqA,sqB,sqC])
  refine wpOrd_done fun w6 h6 => ?_
  go_wp2_with fail
  go_ret
  exact ⟨rfl,Newer.trans (Newer.trans hW h4.undrew) (Newer.trans (Sep.base hO) h6)⟩
set_option maxHeartbeats 8000000 in
theorem RCount_ok (T : Tab) (hT : T.Ok) (AO : Option Addr) (cO : Nat) (AL : Option Addr) (cL : Nat) (AF : Option Addr) (cF : Nat) (w : World) (h : TabIn w w.heap.size T AO AL AF) (hl : T.last < T.slots) :
    Calls Tryz.prog 85 #[.agg (tabCells T AO cO AL cL AF cF)] w fun e w' => GotTab w w' T.count e := by
  have hp := hT.pos
  have hmn := hT.many
  obtain ⟨hl1,hl2,hl3⟩ := hT.last
  have hlen := hT.len
  obtain ⟨m,hm⟩ : ∃ m : Nat,T.lens.length = m + 1 := ⟨T.lens.length - 1,by omega⟩
  rw [hm,Nat.add_sub_cancel] at hl1
  obtain ⟨ad,rfl,had,hc⟩ := read_cell (k := m) (u := .int .i64 T.last) h.l (by omega) (by rw [List.getElem?_map,hl1];rfl)
  have hown := fun v (hv : Below w.heap.size w v) => own8_any T hT.short AO cO (some ad) cL AF cF v ((h.below hv).more hv.size)
  have hge : (decide (T.slots ≤ T.last)) = false := by simpa using hl
  have hsl := hT.slots
  have e1 : IntKind.i64.wrap (T.last + 1) = T.last + 1 := IntWalk.i64_in _ (by omega)
  have e2 : IntKind.i64.wrap ((T.lens.length : Int) - 1) = (m : Int) := by rw [IntWalk.i64_in _ (by omega)];omega
  have hm1 : (m : Int) < (T.lens.length : Int) := by omega
  have hS : Sep w ((w.alloc (.cells (tabCells T AO cO (some ad) cL AF cF) 71)).alloc (.cells #[.int .i64 0, .int .i64 0, .slice none 0 0, .slice none 0 0, .slice none 0 0] 71)) [Thing.cells (w.heap.size + 1) 71 #[.int .i64 0, .int .i64 0, .slice none 0 0, .slice none 0 0, .slice none 0 0],Thing.cells w.heap.size 71 (tabCells T AO cO (some ad) cL AF cF)] := by
    have := Now.pushCells (Now.pushCells (Sep.start w) 71 (tabCells T AO cO (some ad) cL AF cF)) 71 #[.int .i64 0, .int .i64 0, .slice none 0 0, .slice none 0 0, .slice none 0 0]
    simpa using this
  have HLEN := Lib.hid hm
  have HLM := Lib.hid hl1
  clear h hm hl1 hlen
  go_enter Tryz.func85,Tryz.ntmps85
  go_wp2_with fail
  generalize (w.alloc (.cells (tabCells T AO cO (some ad) cL AF cF) 71)).alloc (.cells #[.int .i64 0, .int .i64 0, .slice none 0 0, .slice none 0 0, .slice none 0 0] 71) = wb at hS ⊢
  have hb := Now.blk (pre:=[_]) hS
  have HB : w.heap.size < wb.drew.heap.size := hb.lt
  have hcell : ∀ w1 : World,(w1.heap[w.heap.size]? = wb.drew.heap[w.heap.size]? ∧ wb.drew.heap.size ≤ w1.heap.size) → w1.cell? ⟨w.heap.size,0,none⟩ = some (.int .i64 T.segs) ∧ w1.cell? ⟨w.heap.size,1,none⟩ = some (.int .i64 T.slots) ∧ w1.cell? ⟨w.heap.size,2,none⟩ = some (.slice AO T.order.length cO) ∧ w1.cell? ⟨w.heap.size,3,none⟩ = some (.slice (some ad) T.lens.length cL) ∧ w1.cell? ⟨w.heap.size,4,none⟩ = some (.slice AF T.firsts.length cF) := fun w1 h1 => by
    have hb1 : Blk w1 w.heap.size 71 (tabCells T AO cO (some ad) cL AF cF) := h1.1.trans hb
    exact ⟨hb1.cell 0,hb1.cell 1,hb1.cell 2,hb1.cell 3,hb1.cell 4⟩
  replace hS := hS.drew
  refine wp_region_takes (KeepG.grow w.heap.size) [] [(0,false),(2,false),(3,false),(4,false)] 5 (by kernel_rfl) (by kernel_rfl) rfl (by kernel_rfl) (by intro _ _ d _ _ h;cases d <;> exact h) ?_
  iterate 4
    (apply wpTakes_take
     · exact rfl
     · intro w1 hR1;have h1 := hR1 HB
       (obtain ⟨c0,c1,c2,c3,c4⟩ := hcell w1 h1)
       go_simp
       first
         | with_reducible exact ⟨rfl,sqN _⟩
     simp only [Act.put,sqA,sqB,sqC])
  refine wpTakes_done ?_
  clear hcell hb
  generalize wb.drew = wc at hS ⊢
  refine wpAnyE_fork [1,5,6] (by kernel_rfl) (by simp) ?_
  refine List.forall_mem_cons.2 ⟨?_,List.forall_mem_cons.2 ⟨?_,List.forall_mem_cons.2 ⟨?_,List.forall_mem_nil _⟩⟩⟩
  · refine ⟨_,rfl,?_⟩
    intro w1 h1 K hK
    replace hS := Now.below hS h1
    go_simp
    go_at_call 142
    refine (hown w1 (Sep.base hS)).mono ?_
    rintro e w3 ⟨A1,k1,A2,k2,A3,k3,rfl,hO⟩
    refine hK _ _ (fun _ hg => ⟨(Sep.base hO).block _ hg,hO.size⟩) ?_
    replace hS := Now.pushAll hS hO
    clear hK K h1 hO
    try simp only [Act.put,sqA,sqB,sqC]
    refine wpAnyE_fork [5,6] (by kernel_rfl) (by simp) ?_
    refine List.forall_mem_cons.2 ⟨?_,List.forall_mem_cons.2 ⟨?_,List.forall_mem_nil _⟩⟩
    · refine ⟨_,rfl,?_⟩
      intro w1 h1 K hK
      replace hS := Now.below hS h1
      go_simp
      refine hK _ _ (fun _ _ => ⟨rfl,Nat.le_refl _⟩) ?_
      clear hK K h1
      try simp only [Act.put,sqA,sqB,sqC]
      refine wpAnyE_fork [6] (by kernel_rfl) (by simp) ?_
      refine sqM ?_
      · refine ⟨_,rfl,?_⟩
        intro w1 h1 K hK
        replace hS := Now.below hS h1
        have hyne : w1.heap.size ≠ w.heap.size + 1 := fun e => absurd (Now.blk (pre:=[_,_,_]) hS).lt (by rw [e];exact Nat.lt_irrefl _)
        replace hS := Now.pushCells hS 71 #[.int .i64 0, .int .i64 0, .slice none 0 0, .slice none 0 0, .slice none 0 0]
        go_simp
        refine hK _ _ (fun _ hg => ⟨Below.heap_alloc _ _ _ hg,by simp⟩) ?_
        clear hK K h1
        try simp only [Act.put,sqA,sqB,sqC]
        generalize w1.alloc (.cells #[.int .i64 0, .int .i64 0, .slice none 0 0, .slice none 0 0, .slice none 0 0] 71) = wa at hS ⊢
        generalize w1.heap.size = y at hS hyne ⊢
        refine wpAnyE_fork [7] (by kernel_rfl) (by simp) ?_
        refine sqM ?_
        · refine ⟨_,rfl,?_⟩
          intro w1 h1 K hK
          replace hS := Now.below hS h1
          obtain ⟨r0,r1,r2,r3,r4,fr,hS4,hB4⟩ := ref8_set (pre:=[]) hS (.int .i64 T.segs) (.int .i64 T.slots) (.slice A1 T.order.length k1) (.slice A2 T.lens.length k2) (.slice A3 T.firsts.length k3)
          have f0 := fr 0
          have f1 := fr 1
          have f2 := fr 2
          have f3 := fr 3
          have f4 := fr 4
          go_simp
          have hbo := Now.blk (pre:=[_,_,_,_,_]) hS
          have hbn := Now.blk (pre:=[_,_,_,_,_]) hS4
          refine hK _ _ (fun _ _ => ⟨hbn.trans hbo.symm,hB4⟩) ?_
          replace hS := hS4
          clear hK K h1 hS4 hbo hbn r0 r1 r2 r3 r4 fr f0 f1 f2 f3 f4
          try simp only [Act.put,sqA,sqB,sqC]
          apply wpAnyE_pure (KeepG.grow w.heap.size) 8
          · kernel_rfl
          · intro _ _ d _ _ h;cases d <;> exact h
          · exact rfl
          · kernel_rfl
          · intro wv
            go_simp
            exact ⟨rfl,sqN _⟩
          try simp only [Act.put,sqA,sqB,sqC]
          replace hS := Now.front (pre:=[_,_,_,_,_]) hS
          replace hS := Now.front (pre:=[_,_,_,_,_]) hS
          replace hS := Now.front (pre:=[_,_,_,_,_]) hS
          replace hS := Now.front (pre:=[_,_,_,_,_]) hS
          replace hS := Now.front (pre:=[_,_,_,_,_]) hS
          replace hS := Now.front (pre:=[_,_,_,_,_]) hS
          refine wpAnyE_end (by kernel_rfl) fun w5 h5 => ?_
          replace hS := Now.below hS h5
          clear h5
          have hcell : ∀ v,Newer w5.drew v → v.cell? ⟨w.heap.size,0,none⟩ = some (.int .i64 T.segs) ∧ v.cell? ⟨w.heap.size,1,none⟩ = some (.int .i64 T.slots) ∧ v.cell? ⟨w.heap.size,2,none⟩ = some (.slice AO T.order.length cO) ∧ v.cell? ⟨w.heap.size,3,none⟩ = some (.slice (some ad) T.lens.length cL) ∧ v.cell? (ad.add m) = some (.int .i64 T.last) := fun v hv => by
            have hb1 := (Now.blk (pre:=[_,_,_,_,_]) hS).below hv.undrew (Now.blk (pre:=[_,_,_,_,_]) hS).lt
            exact ⟨hb1.cell 0,hb1.cell 1,hb1.cell 2,hb1.cell 3,(((Sep.base hS).trans (hv.undrew.mono hS.size)).cell (p := ad.add m) (by rw [block_of_add];exact had)).trans hc⟩
          have hS6 := hS.drew
          go_wp2_with fail
          refine wp_region_ord Newer.grow [(0,true),(1,true),(2,true),(3,true),(4,true),(5,true),(6,true),(7,true)] [] (by kernel_rfl) (by kernel_rfl) rfl (by kernel_rfl) (by intro _ _ d _ _ h;cases d <;> exact h) ?_
          iterate 8
            (apply wpOrd_take
             · exact rfl
             · intro w1 h1
               (obtain ⟨c0,c1,c2,c3,c4⟩ := hcell w1 h1)
               go_simp
               first
                 | with_reducible exact ⟨rfl,sqN _⟩
             simp only [Act.put,sqA,sqB,sqC])
          refine wpOrd_done fun w8 h8 => ?_
          have hS8 := Now.below hS6 h8
          clear hcell hS hS6 h8
          go_wp2_with fail
          obtain ⟨r,kr,cur,e2,_⟩ := row_form (Now.row (pre:=[_,_]) hS8) (by omega)
          cases e2
          have hrow := Now.row (pre:=[_,_]) hS8
          have hml : m < T.lens.length := by omega
          have hrc := row_at hrow hml
          rw [List.getElem?_map,HLM.out] at hrc
          have hyb := Now.blk (pre:=[]) hS8
          have hcell : ∀ w1,Newer w8.drew w1 → w1.cell? ⟨y,0,none⟩ = some (.int .i64 T.segs) ∧ w1.cell? ⟨y,1,none⟩ = some (.int .i64 T.slots) ∧ w1.cell? ⟨y,2,none⟩ = some (.slice A1 T.order.length k1) ∧ w1.cell? ⟨y,3,none⟩ = some (.slice (some ⟨r,0,none⟩) T.lens.length k2) ∧ w1.cell? ⟨y,4,none⟩ = some (.slice A3 T.firsts.length k3) ∧ w1.cell? ⟨r,m,none⟩ = some (.int .i64 T.last) ∧ w1.frozen? ⟨r,m,none⟩ = false := fun w1 hw => by
            have hb1 := hyb.below hw.undrew hyb.lt
            exact ⟨hb1.cell 0,hb1.cell 1,hb1.cell 2,hb1.cell 3,hb1.cell 4,(hw.undrew.cell (lt_of_cell (a := ⟨r,m,none⟩) hrc.1)).trans hrc.1,(hw.undrew.frozen (lt_of_cell (a := ⟨r,m,none⟩) hrc.1)).trans hrc.2⟩
          have hml1 : (m : Int) < (T.lens.length : Int) := by omega
          clear hyb hrow hrc
          refine wp_region_ord Newer.grow [(0,true),(1,true),(2,true),(3,true),(4,true),(5,true),(6,true),(7,true),(8,true),(9,true),(10,false)] [10] (by kernel_rfl) (by kernel_rfl) rfl (by kernel_rfl) (by intro _ _ d _ _ h;cases d <;> exact h) ?_
          iterate 10
            (apply wpOrd_take
             · exact rfl
             · intro w1 h1
               (obtain ⟨c0,c1,c2,c3,c4,c5,c6⟩ := hcell w1 h1)
               go_simp
               first
                 | with_reducible exact ⟨rfl,sqN _⟩
             simp only [Act.put,sqA,sqB,sqC])
          refine wpOrd_last rfl (by decide) ?_
          intro v6 h7 K hK
          obtain ⟨c0,c1,c2,c3,c4,c5,c6⟩ := hcell v6 h7
          go_simp
          refine hK _ _ ?_
          have hS9 := Now.rowSet (pre:=[_,_]) (Now.below hS8.drew h7) hml (.int .i64 (T.last + 1))
          clear hK K hcell hS8 c0 c1 c2 c3 c4 c5 c6
          generalize v6.setCell ⟨r,m,none⟩ (.int .i64 (T.last + 1)) = v7 at hS9 ⊢
          refine wpOrd_done fun v8 h8 => ?_
          have hS10 := Now.below hS9 h8
          have hyb := Now.blk (pre:=[]) hS10
          have c0 : v8.cell? ⟨y,0,none⟩ = some (.int .i64 T.segs) := hyb.cell 0
          have c1 : v8.cell? ⟨y,1,none⟩ = some (.int .i64 T.slots) := hyb.cell 1
          have c2 : v8.cell? ⟨y,2,none⟩ = some (.slice A1 T.order.length k1) := hyb.cell 2
          have c3 : v8.cell? ⟨y,3,none⟩ = some (.slice (some ⟨r,0,none⟩) T.lens.length k2) := hyb.cell 3
          have c4 : v8.cell? ⟨y,4,none⟩ = some (.slice A3 T.firsts.length k3) := hyb.cell 4
          have hr := Now.blk (pre:=[_,_,_,_]) hS10
          have f := fun k => hr.frozen k
          have r0 : v8.cell? ⟨w.heap.size + 1,0,none⟩ = some (.int .i64 0) := hr.cell 0
          have r1 : v8.cell? ⟨w.heap.size + 1,1,none⟩ = some (.int .i64 0) := hr.cell 1
          have r2 : v8.cell? ⟨w.heap.size + 1,2,none⟩ = some (.slice none 0 0) := hr.cell 2
          have r3 : v8.cell? ⟨w.heap.size + 1,3,none⟩ = some (.slice none 0 0) := hr.cell 3
          have r4 : v8.cell? ⟨w.heap.size + 1,4,none⟩ = some (.slice none 0 0) := hr.cell 4
          have hS11 := Lib.hid (Now.set5 (pre:=[_,_,_,_]) hS10 (.int .i64 T.segs) (.int .i64 T.slots) (.slice A1 T.order.length k1) (.slice (some ⟨r,0,none⟩) T.lens.length k2) (.slice A3 T.firsts.length k3))
          clear hS9 hS10 hyb hr
          go_wp2_with fail
          have hlc : T.count.lens.length = T.lens.length := List.length_set ..
          have hfin : Sep w (((((v8.setCell ⟨w.heap.size + 1,0,none⟩ (.int .i64 T.segs)).setCell ⟨w.heap.size + 1,1,none⟩ (.int .i64 T.slots)).setCell ⟨w.heap.size + 1,2,none⟩ (.slice A1 T.order.length k1)).setCell ⟨w.heap.size + 1,3,none⟩ (.slice (some ⟨r,0,none⟩) T.lens.length k2)).setCell ⟨w.heap.size + 1,4,none⟩ (.slice A3 T.firsts.length k3)) (tabParts T.count A1 k1 (some ⟨r,0,none⟩) k2 A3 k3) := by
            have h12 := Now.drop (pre:=[_,_,_]) (Now.drop (pre:=[_,_,_]) (Now.drop (pre:=[]) hS11.out))
            show Sep w _ [_,Thing.row _ 1 (.slice _ T.count.lens.length _) T.count.lens.length (ints T.count.lens),_]
            rw [hlc,show ints T.count.lens = (ints T.lens).set m (.int .i64 (T.last + 1)) by
              show ints (T.lens.set (T.lens.length - 1) _) = _
              rw [HLEN.out,Nat.add_sub_cancel];exact List.map_set ..]
            exact h12
          refine bodyPost_ret (v := .tuple #[.agg #[.int .i64 T.segs, .int .i64 T.slots, .slice A1 T.order.length k1, .slice (some ⟨r,0,none⟩) T.lens.length k2, .slice A3 T.firsts.length k3], .int .i64 0]) ?_ rfl ⟨A1,k1,some ⟨r,0,none⟩,k2,A3,k3,by show _ = Ending.returned (.tuple #[.agg #[_,_,_, .slice _ T.count.lens.length _,_],_]);rw [hlc];rfl,hfin⟩
          exact results_row_tmp rfl _ _ _ _ _ _ _ (by simp) (by simp) (Now.blk (pre:=[_,_,_,_]) hS11.out) Tryz.underlying71 rfl (by kernel_rfl)
    · refine ⟨_,rfl,?_⟩
      intro w1 h1 K hK
      replace hS := Now.below hS h1
      have hyne : w1.heap.size ≠ w.heap.size + 1 := fun e => absurd (Now.blk (pre:=[_,_,_]) hS).lt (by rw [e];exact Nat.lt_irrefl _)
      replace hS := Now.pushCells hS 71 #[.int .i64 0, .int .i64 0, .slice none 0 0, .slice none 0 0, .slice none 0 0]
      go_simp
      refine hK _ _ (fun _ hg => ⟨Below.heap_alloc _ _ _ hg,by simp⟩) ?_
      clear hK K h1
      try simp only [Act.put,sqA,sqB,sqC]
      generalize w1.alloc (.cells #[.int .i64 0, .int .i64 0, .slice none 0 0, .slice none 0 0, .slice none 0 0] 71) = wa at hS ⊢
      generalize w1.heap.size = y at hS hyne ⊢
      refine wpAnyE_fork [5,7] (by kernel_rfl) (by simp) ?_
      refine List.forall_mem_cons.2 ⟨?_,List.forall_mem_cons.2 ⟨?_,List.forall_mem_nil _⟩⟩
      · refine ⟨_,rfl,?_⟩
        intro w1 h1 K hK
        replace hS := Now.below hS h1
        go_simp
        refine hK _ _ (fun _ _ => ⟨rfl,Nat.le_refl _⟩) ?_
        clear hK K h1
        try simp only [Act.put,sqA,sqB,sqC]
        refine wpAnyE_fork [7] (by kernel_rfl) (by simp) ?_
        refine sqM ?_
        · refine ⟨_,rfl,?_⟩
          intro w1 h1 K hK
          replace hS := Now.below hS h1
          obtain ⟨r0,r1,r2,r3,r4,fr,hS4,hB4⟩ := ref8_set (pre:=[]) hS (.int .i64 T.segs) (.int .i64 T.slots) (.slice A1 T.order.length k1) (.slice A2 T.lens.length k2) (.slice A3 T.firsts.length k3)
          have f0 := fr 0
          have f1 := fr 1
          have f2 := fr 2
          have f3 := fr 3
          have f4 := fr 4
          go_simp
          have hbo := Now.blk (pre:=[_,_,_,_,_]) hS
          have hbn := Now.blk (pre:=[_,_,_,_,_]) hS4
          refine hK _ _ (fun _ _ => ⟨hbn.trans hbo.symm,hB4⟩) ?_
          replace hS := hS4
          clear hK K h1 hS4 hbo hbn r0 r1 r2 r3 r4 fr f0 f1 f2 f3 f4
          try simp only [Act.put,sqA,sqB,sqC]
          apply wpAnyE_pure (KeepG.grow w.heap.size) 8
          · kernel_rfl
          · intro _ _ d _ _ h;cases d <;> exact h
          · exact rfl
          · kernel_rfl
          · intro wv
            go_simp
            exact ⟨rfl,sqN _⟩
          try simp only [Act.put,sqA,sqB,sqC]
          replace hS := Now.front (pre:=[_,_,_,_,_]) hS
          replace hS := Now.front (pre:=[_,_,_,_,_]) hS
          replace hS := Now.front (pre:=[_,_,_,_,_]) hS
          replace hS := Now.front (pre:=[_,_,_,_,_]) hS
          replace hS := Now.front (pre:=[_,_,_,_,_]) hS
          replace hS := Now.front (pre:=[_,_,_,_,_]) hS
          refine wpAnyE_end (by kernel_rfl) fun w5 h5 => ?_
          replace hS := Now.below hS h5
          clear h5
          have hcell : ∀ v,Newer w5.drew v → v.cell? ⟨w.heap.size,0,none⟩ = some (.int .i64 T.segs) ∧ v.cell? ⟨w.heap.size,1,none⟩ = some (.int .i64 T.slots) ∧ v.cell? ⟨w.heap.size,2,none⟩ = some (.slice AO T.order.length cO) ∧ v.cell? ⟨w.heap.size,3,none⟩ = some (.slice (some ad) T.lens.length cL) ∧ v.cell? (ad.add m) = some (.int .i64 T.last) := fun v hv => by
            have hb1 := (Now.blk (pre:=[_,_,_,_,_]) hS).below hv.undrew (Now.blk (pre:=[_,_,_,_,_]) hS).lt
            exact ⟨hb1.cell 0,hb1.cell 1,hb1.cell 2,hb1.cell 3,(((Sep.base hS).trans (hv.undrew.mono hS.size)).cell (p := ad.add m) (by rw [block_of_add];exact had)).trans hc⟩
          have hS6 := hS.drew
          go_wp2_with fail
          refine wp_region_ord Newer.grow [(0,true),(1,true),(2,true),(3,true),(4,true),(5,true),(6,true),(7,true)] [] (by kernel_rfl) (by kernel_rfl) rfl (by kernel_rfl) (by intro _ _ d _ _ h;cases d <;> exact h) ?_
          iterate 8
            (apply wpOrd_take
             · exact rfl
             · intro w1 h1
               (obtain ⟨c0,c1,c2,c3,c4⟩ := hcell w1 h1)
               go_simp
               first
                 | with_reducible exact ⟨rfl,sqN _⟩
             simp only [Act.put,sqA,sqB,sqC])
          refine wpOrd_done fun w8 h8 => ?_
          have hS8 := Now.below hS6 h8
          clear hcell hS hS6 h8
          go_wp2_with fail
          obtain ⟨r,kr,cur,e2,_⟩ := row_form (Now.row (pre:=[_,_]) hS8) (by omega)
          cases e2
          have hrow := Now.row (pre:=[_,_]) hS8
          have hml : m < T.lens.length := by omega
          have hrc := row_at hrow hml
          rw [List.getElem?_map,HLM.out] at hrc
          have hyb := Now.blk (pre:=[]) hS8
          have hcell : ∀ w1,Newer w8.drew w1 → w1.cell? ⟨y,0,none⟩ = some (.int .i64 T.segs) ∧ w1.cell? ⟨y,1,none⟩ = some (.int .i64 T.slots) ∧ w1.cell? ⟨y,2,none⟩ = some (.slice A1 T.order.length k1) ∧ w1.cell? ⟨y,3,none⟩ = some (.slice (some ⟨r,0,none⟩) T.lens.length k2) ∧ w1.cell? ⟨y,4,none⟩ = some (.slice A3 T.firsts.length k3) ∧ w1.cell? ⟨r,m,none⟩ = some (.int .i64 T.last) ∧ w1.frozen? ⟨r,m,none⟩ = false := fun w1 hw => by
            have hb1 := hyb.below hw.undrew hyb.lt
            exact ⟨hb1.cell 0,hb1.cell 1,hb1.cell 2,hb1.cell 3,hb1.cell 4,(hw.undrew.cell (lt_of_cell (a := ⟨r,m,none⟩) hrc.1)).trans hrc.1,(hw.undrew.frozen (lt_of_cell (a := ⟨r,m,none⟩) hrc.1)).trans hrc.2⟩
          have hml1 : (m : Int) < (T.lens.length : Int) := by omega
          clear hyb hrow hrc
          refine wp_region_ord Newer.grow [(0,true),(1,true),(2,true),(3,true),(4,true),(5,true),(6,true),(7,true),(8,true),(9,true),(10,false)] [10] (by kernel_rfl) (by kernel_rfl) rfl (by kernel_rfl) (by intro _ _ d _ _ h;cases d <;> exact h) ?_
          iterate 10
            (apply wpOrd_take
             · exact rfl
             · intro w1 h1
               (obtain ⟨c0,c1,c2,c3,c4,c5,c6⟩ := hcell w1 h1)
               go_simp
               first
                 | with_reducible exact ⟨rfl,sqN _⟩
             simp only [Act.put,sqA,sqB,sqC])
          refine wpOrd_last rfl (by decide) ?_
          intro v6 h7 K hK
          obtain ⟨c0,c1,c2,c3,c4,c5,c6⟩ := hcell v6 h7
          go_simp
          refine hK _ _ ?_
          have hS9 := Now.rowSet (pre:=[_,_]) (Now.below hS8.drew h7) hml (.int .i64 (T.last + 1))
          clear hK K hcell hS8 c0 c1 c2 c3 c4 c5 c6
          generalize v6.setCell ⟨r,m,none⟩ (.int .i64 (T.last + 1)) = v7 at hS9 ⊢
          refine wpOrd_done fun v8 h8 => ?_
          have hS10 := Now.below hS9 h8
          have hyb := Now.blk (pre:=[]) hS10
          have c0 : v8.cell? ⟨y,0,none⟩ = some (.int .i64 T.segs) := hyb.cell 0
          have c1 : v8.cell? ⟨y,1,none⟩ = some (.int .i64 T.slots) := hyb.cell 1
          have c2 : v8.cell? ⟨y,2,none⟩ = some (.slice A1 T.order.length k1) := hyb.cell 2
          have c3 : v8.cell? ⟨y,3,none⟩ = some (.slice (some ⟨r,0,none⟩) T.lens.length k2) := hyb.cell 3
          have c4 : v8.cell? ⟨y,4,none⟩ = some (.slice A3 T.firsts.length k3) := hyb.cell 4
          have hr := Now.blk (pre:=[_,_,_,_]) hS10
          have f := fun k => hr.frozen k
          have r0 : v8.cell? ⟨w.heap.size + 1,0,none⟩ = some (.int .i64 0) := hr.cell 0
          have r1 : v8.cell? ⟨w.heap.size + 1,1,none⟩ = some (.int .i64 0) := hr.cell 1
          have r2 : v8.cell? ⟨w.heap.size + 1,2,none⟩ = some (.slice none 0 0) := hr.cell 2
          have r3 : v8.cell? ⟨w.heap.size + 1,3,none⟩ = some (.slice none 0 0) := hr.cell 3
          have r4 : v8.cell? ⟨w.heap.size + 1,4,none⟩ = some (.slice none 0 0) := hr.cell 4
          have hS11 := Lib.hid (Now.set5 (pre:=[_,_,_,_]) hS10 (.int .i64 T.segs) (.int .i64 T.slots) (.slice A1 T.order.length k1) (.slice (some ⟨r,0,none⟩) T.lens.length k2) (.slice A3 T.firsts.length k3))
          clear hS9 hS10 hyb hr
          go_wp2_with fail
          have hlc : T.count.lens.length = T.lens.length := List.length_set ..
          have hfin : Sep w (((((v8.setCell ⟨w.heap.size + 1,0,none⟩ (.int .i64 T.segs)).setCell ⟨w.heap.size + 1,1,none⟩ (.int .i64 T.slots)).setCell ⟨w.heap.size + 1,2,none⟩ (.slice A1 T.order.length k1)).setCell ⟨w.heap.size + 1,3,none⟩ (.slice (some ⟨r,0,none⟩) T.lens.length k2)).setCell ⟨w.heap.size + 1,4,none⟩ (.slice A3 T.firsts.length k3)) (tabParts T.count A1 k1 (some ⟨r,0,none⟩) k2 A3 k3) := by
            have h12 := Now.drop (pre:=[_,_,_]) (Now.drop (pre:=[_,_,_]) (Now.drop (pre:=[]) hS11.out))
            show Sep w _ [_,Thing.row _ 1 (.slice _ T.count.lens.length _) T.count.lens.length (ints T.count.lens),_]
            rw [hlc,show ints T.count.lens = (ints T.lens).set m (.int .i64 (T.last + 1)) by
              show ints (T.lens.set (T.lens.length - 1) _) = _
              rw [HLEN.out,Nat.add_sub_cancel];exact List.map_set ..]
            exact h12
          refine bodyPost_ret (v := .tuple #[.agg #[.int .i64 T.segs, .int .i64 T.slots, .slice A1 T.order.length k1, .slice (some ⟨r,0,none⟩) T.lens.length k2, .slice A3 T.firsts.length k3], .int .i64 0]) ?_ rfl ⟨A1,k1,some ⟨r,0,none⟩,k2,A3,k3,by show _ = Ending.returned (.tuple #[.agg #[_,_,_, .slice _ T.count.lens.length _,_],_]);rw [hlc];rfl,hfin⟩
          exact results_row_tmp rfl _ _ _ _ _ _ _ (by simp) (by simp) (Now.blk (pre:=[_,_,_,_]) hS11.out) Tryz.underlying71 rfl (by kernel_rfl)
      · refine ⟨_,rfl,?_⟩
        intro w1 h1 K hK
        replace hS := Now.below hS h1
        obtain ⟨r0,r1,r2,r3,r4,fr,hS4,hB4⟩ := ref8_set (pre:=[]) hS (.int .i64 T.segs) (.int .i64 T.slots) (.slice A1 T.order.length k1) (.slice A2 T.lens.length k2) (.slice A3 T.firsts.length k3)
        have f0 := fr 0
        have f1 := fr 1
        have f2 := fr 2
        have f3 := fr 3
        have f4 := fr 4
        go_simp
        have hbo := Now.blk (pre:=[_,_,_,_,_]) hS
        have hbn := Now.blk (pre:=[_,_,_,_,_]) hS4
        refine hK _ _ (fun _ _ => ⟨hbn.trans hbo.symm,hB4⟩) ?_
        replace hS := hS4
        clear hK K h1 hS4 hbo hbn r0 r1 r2 r3 r4 fr f0 f1 f2 f3 f4
        try simp only [Act.put,sqA,sqB,sqC]
        refine wpAnyE_fork [5] (by kernel_rfl) (by simp) ?_
        refine sqM ?_
        · refine ⟨_,rfl,?_⟩
          intro w1 h1 K hK
          replace hS := Now.below hS h1
          go_simp
          refine hK _ _ (fun _ _ => ⟨rfl,Nat.le_refl _⟩) ?_
          clear hK K h1
          try simp only [Act.put,sqA,sqB,sqC]
          apply wpAnyE_pure (KeepG.grow w.heap.size) 8
          · kernel_rfl
          · intro _ _ d _ _ h;cases d <;> exact h
          · exact rfl
          · kernel_rfl
          · intro wv
            go_simp
            exact ⟨rfl,sqN _⟩
          try simp only [Act.put,sqA,sqB,sqC]
          replace hS := Now.front (pre:=[_,_,_,_,_]) hS
          replace hS := Now.front (pre:=[_,_,_,_,_]) hS
          replace hS := Now.front (pre:=[_,_,_,_,_]) hS
          replace hS := Now.front (pre:=[_,_,_,_,_]) hS
          replace hS := Now.front (pre:=[_,_,_,_,_]) hS
          replace hS := Now.front (pre:=[_,_,_,_,_]) hS
          refine wpAnyE_end (by kernel_rfl) fun w5 h5 => ?_
          replace hS := Now.below hS h5
          clear h5
          have hcell : ∀ v,Newer w5.drew v → v.cell? ⟨w.heap.size,0,none⟩ = some (.int .i64 T.segs) ∧ v.cell? ⟨w.heap.size,1,none⟩ = some (.int .i64 T.slots) ∧ v.cell? ⟨w.heap.size,2,none⟩ = some (.slice AO T.order.length cO) ∧ v.cell? ⟨w.heap.size,3,none⟩ = some (.slice (some ad) T.lens.length cL) ∧ v.cell? (ad.add m) = some (.int .i64 T.last) := fun v hv => by
            have hb1 := (Now.blk (pre:=[_,_,_,_,_]) hS).below hv.undrew (Now.blk (pre:=[_,_,_,_,_]) hS).lt
            exact ⟨hb1.cell 0,hb1.cell 1,hb1.cell 2,hb1.cell 3,(((Sep.base hS).trans (hv.undrew.mono hS.size)).cell (p := ad.add m) (by rw [block_of_add];exact had)).trans hc⟩
          have hS6 := hS.drew
          go_wp2_with fail
          refine wp_region_ord Newer.grow [(0,true),(1,true),(2,true),(3,true),(4,true),(5,true),(6,true),(7,true)] [] (by kernel_rfl) (by kernel_rfl) rfl (by kernel_rfl) (by intro _ _ d _ _ h;cases d <;> exact h) ?_
          iterate 8
            (apply wpOrd_take
             · exact rfl
             · intro w1 h1
               (obtain ⟨c0,c1,c2,c3,c4⟩ := hcell w1 h1)
               go_simp
               first
                 | with_reducible exact ⟨rfl,sqN _⟩
             simp only [Act.put,sqA,sqB,sqC])
          refine wpOrd_done fun w8 h8 => ?_
          have hS8 := Now.below hS6 h8
          clear hcell hS hS6 h8
          go_wp2_with fail
          obtain ⟨r,kr,cur,e2,_⟩ := row_form (Now.row (pre:=[_,_]) hS8) (by omega)
          cases e2
          have hrow := Now.row (pre:=[_,_]) hS8
          have hml : m < T.lens.length := by omega
          have hrc := row_at hrow hml
          rw [List.getElem?_map,HLM.out] at hrc
          have hyb := Now.blk (pre:=[]) hS8
          have hcell : ∀ w1,Newer w8.drew w1 → w1.cell? ⟨y,0,none⟩ = some (.int .i64 T.segs) ∧ w1.cell? ⟨y,1,none⟩ = some (.int .i64 T.slots) ∧ w1.cell? ⟨y,2,none⟩ = some (.slice A1 T.order.length k1) ∧ w1.cell? ⟨y,3,none⟩ = some (.slice (some ⟨r,0,none⟩) T.lens.length k2) ∧ w1.cell? ⟨y,4,none⟩ = some (.slice A3 T.firsts.length k3) ∧ w1.cell? ⟨r,m,none⟩ = some (.int .i64 T.last) ∧ w1.frozen? ⟨r,m,none⟩ = false := fun w1 hw => by
            have hb1 := hyb.below hw.undrew hyb.lt
            exact ⟨hb1.cell 0,hb1.cell 1,hb1.cell 2,hb1.cell 3,hb1.cell 4,(hw.undrew.cell (lt_of_cell (a := ⟨r,m,none⟩) hrc.1)).trans hrc.1,(hw.undrew.frozen (lt_of_cell (a := ⟨r,m,none⟩) hrc.1)).trans hrc.2⟩
          have hml1 : (m : Int) < (T.lens.length : Int) := by omega
          clear hyb hrow hrc
          refine wp_region_ord Newer.grow [(0,true),(1,true),(2,true),(3,true),(4,true),(5,true),(6,true),(7,true),(8,true),(9,true),(10,false)] [10] (by kernel_rfl) (by kernel_rfl) rfl (by kernel_rfl) (by intro _ _ d _ _ h;cases d <;> exact h) ?_
          iterate 10
            (apply wpOrd_take
             · exact rfl
             · intro w1 h1
               (obtain ⟨c0,c1,c2,c3,c4,c5,c6⟩ := hcell w1 h1)
               go_simp
               first
                 | with_reducible exact ⟨rfl,sqN _⟩
             simp only [Act.put,sqA,sqB,sqC])
          refine wpOrd_last rfl (by decide) ?_
          intro v6 h7 K hK
          obtain ⟨c0,c1,c2,c3,c4,c5,c6⟩ := hcell v6 h7
          go_simp
          refine hK _ _ ?_
          have hS9 := Now.rowSet (pre:=[_,_]) (Now.below hS8.drew h7) hml (.int .i64 (T.last + 1))
          clear hK K hcell hS8 c0 c1 c2 c3 c4 c5 c6
          generalize v6.setCell ⟨r,m,none⟩ (.int .i64 (T.last + 1)) = v7 at hS9 ⊢
          refine wpOrd_done fun v8 h8 => ?_
          have hS10 := Now.below hS9 h8
          have hyb := Now.blk (pre:=[]) hS10
          have c0 : v8.cell? ⟨y,0,none⟩ = some (.int .i64 T.segs) := hyb.cell 0
          have c1 : v8.cell? ⟨y,1,none⟩ = some (.int .i64 T.slots) := hyb.cell 1
          have c2 : v8.cell? ⟨y,2,none⟩ = some (.slice A1 T.order.length k1) := hyb.cell 2
          have c3 : v8.cell? ⟨y,3,none⟩ = some (.slice (some ⟨r,0,none⟩) T.lens.length k2) := hyb.cell 3
          have c4 : v8.cell? ⟨y,4,none⟩ = some (.slice A3 T.firsts.length k3) := hyb.cell 4
          have hr := Now.blk (pre:=[_,_,_,_]) hS10
          have f := fun k => hr.frozen k
          have r0 : v8.cell? ⟨w.heap.size + 1,0,none⟩ = some (.int .i64 0) := hr.cell 0
          have r1 : v8.cell? ⟨w.heap.size + 1,1,none⟩ = some (.int .i64 0) := hr.cell 1
          have r2 : v8.cell? ⟨w.heap.size + 1,2,none⟩ = some (.slice none 0 0) := hr.cell 2
          have r3 : v8.cell? ⟨w.heap.size + 1,3,none⟩ = some (.slice none 0 0) := hr.cell 3
          have r4 : v8.cell? ⟨w.heap.size + 1,4,none⟩ = some (.slice none 0 0) := hr.cell 4
          have hS11 := Lib.hid (Now.set5 (pre:=[_,_,_,_]) hS10 (.int .i64 T.segs) (.int .i64 T.slots) (.slice A1 T.order.length k1) (.slice (some ⟨r,0,none⟩) T.lens.length k2) (.slice A3 T.firsts.length k3))
          clear hS9 hS10 hyb hr
          go_wp2_with fail
          have hlc : T.count.lens.length = T.lens.length := List.length_set ..
          have hfin : Sep w (((((v8.setCell ⟨w.heap.size + 1,0,none⟩ (.int .i64 T.segs)).setCell ⟨w.heap.size + 1,1,none⟩ (.int .i64 T.slots)).setCell ⟨w.heap.size + 1,2,none⟩ (.slice A1 T.order.length k1)).setCell ⟨w.heap.size + 1,3,none⟩ (.slice (some ⟨r,0,none⟩) T.lens.length k2)).setCell ⟨w.heap.size + 1,4,none⟩ (.slice A3 T.firsts.length k3)) (tabParts T.count A1 k1 (some ⟨r,0,none⟩) k2 A3 k3) := by
            have h12 := Now.drop (pre:=[_,_,_]) (Now.drop (pre:=[_,_,_]) (Now.drop (pre:=[]) hS11.out))
            show Sep w _ [_,Thing.row _ 1 (.slice _ T.count.lens.length _) T.count.lens.length (ints T.count.lens),_]
            rw [hlc,show ints T.count.lens = (ints T.lens).set m (.int .i64 (T.last + 1)) by
              show ints (T.lens.set (T.lens.length - 1) _) = _
              rw [HLEN.out,Nat.add_sub_cancel];exact List.map_set ..]
            exact h12
          refine bodyPost_ret (v := .tuple #[.agg #[.int .i64 T.segs, .int .i64 T.slots, .slice A1 T.order.length k1, .slice (some ⟨r,0,none⟩) T.lens.length k2, .slice A3 T.firsts.length k3], .int .i64 0]) ?_ rfl ⟨A1,k1,some ⟨r,0,none⟩,k2,A3,k3,by show _ = Ending.returned (.tuple #[.agg #[_,_,_, .slice _ T.count.lens.length _,_],_]);rw [hlc];rfl,hfin⟩
          exact results_row_tmp rfl _ _ _ _ _ _ _ (by simp) (by simp) (Now.blk (pre:=[_,_,_,_]) hS11.out) Tryz.underlying71 rfl (by kernel_rfl)
  · refine ⟨_,rfl,?_⟩
    intro w1 h1 K hK
    replace hS := Now.below hS h1
    go_simp
    refine hK _ _ (fun _ _ => ⟨rfl,Nat.le_refl _⟩) ?_
    clear hK K h1
    try simp only [Act.put,sqA,sqB,sqC]
    refine wpAnyE_fork [1,6] (by kernel_rfl) (by simp) ?_
    refine List.forall_mem_cons.2 ⟨?_,List.forall_mem_cons.2 ⟨?_,List.forall_mem_nil _⟩⟩
    · refine ⟨_,rfl,?_⟩
      intro w1 h1 K hK
      replace hS := Now.below hS h1
      go_simp
      go_at_call 142
      refine (hown w1 (Sep.base hS)).mono ?_
      rintro e w3 ⟨A1,k1,A2,k2,A3,k3,rfl,hO⟩
      refine hK _ _ (fun _ hg => ⟨(Sep.base hO).block _ hg,hO.size⟩) ?_
      replace hS := Now.pushAll hS hO
      clear hK K h1 hO
      try simp only [Act.put,sqA,sqB,sqC]
      refine wpAnyE_fork [6] (by kernel_rfl) (by simp) ?_
      refine sqM ?_
      · refine ⟨_,rfl,?_⟩
        intro w1 h1 K hK
        replace hS := Now.below hS h1
        have hyne : w1.heap.size ≠ w.heap.size + 1 := fun e => absurd (Now.blk (pre:=[_,_,_]) hS).lt (by rw [e];exact Nat.lt_irrefl _)
        replace hS := Now.pushCells hS 71 #[.int .i64 0, .int .i64 0, .slice none 0 0, .slice none 0 0, .slice none 0 0]
        go_simp
        refine hK _ _ (fun _ hg => ⟨Below.heap_alloc _ _ _ hg,by simp⟩) ?_
        clear hK K h1
        try simp only [Act.put,sqA,sqB,sqC]
        generalize w1.alloc (.cells #[.int .i64 0, .int .i64 0, .slice none 0 0, .slice none 0 0, .slice none 0 0] 71) = wa at hS ⊢
        generalize w1.heap.size = y at hS hyne ⊢
        refine wpAnyE_fork [7] (by kernel_rfl) (by simp) ?_
        refine sqM ?_
        · refine ⟨_,rfl,?_⟩
          intro w1 h1 K hK
          replace hS := Now.below hS h1
          obtain ⟨r0,r1,r2,r3,r4,fr,hS4,hB4⟩ := ref8_set (pre:=[]) hS (.int .i64 T.segs) (.int .i64 T.slots) (.slice A1 T.order.length k1) (.slice A2 T.lens.length k2) (.slice A3 T.firsts.length k3)
          have f0 := fr 0
          have f1 := fr 1
          have f2 := fr 2
          have f3 := fr 3
          have f4 := fr 4
          go_simp
          have hbo := Now.blk (pre:=[_,_,_,_,_]) hS
          have hbn := Now.blk (pre:=[_,_,_,_,_]) hS4
          refine hK _ _ (fun _ _ => ⟨hbn.trans hbo.symm,hB4⟩) ?_
          replace hS := hS4
          clear hK K h1 hS4 hbo hbn r0 r1 r2 r3 r4 fr f0 f1 f2 f3 f4
          try simp only [Act.put,sqA,sqB,sqC]
          apply wpAnyE_pure (KeepG.grow w.heap.size) 8
          · kernel_rfl
          · intro _ _ d _ _ h;cases d <;> exact h
          · exact rfl
          · kernel_rfl
          · intro wv
            go_simp
            exact ⟨rfl,sqN _⟩
          try simp only [Act.put,sqA,sqB,sqC]
          replace hS := Now.front (pre:=[_,_,_,_,_]) hS
          replace hS := Now.front (pre:=[_,_,_,_,_]) hS
          replace hS := Now.front (pre:=[_,_,_,_,_]) hS
          replace hS := Now.front (pre:=[_,_,_,_,_]) hS
          replace hS := Now.front (pre:=[_,_,_,_,_]) hS
          replace hS := Now.front (pre:=[_,_,_,_,_]) hS
          refine wpAnyE_end (by kernel_rfl) fun w5 h5 => ?_
          replace hS := Now.below hS h5
          clear h5
          have hcell : ∀ v,Newer w5.drew v → v.cell? ⟨w.heap.size,0,none⟩ = some (.int .i64 T.segs) ∧ v.cell? ⟨w.heap.size,1,none⟩ = some (.int .i64 T.slots) ∧ v.cell? ⟨w.heap.size,2,none⟩ = some (.slice AO T.order.length cO) ∧ v.cell? ⟨w.heap.size,3,none⟩ = some (.slice (some ad) T.lens.length cL) ∧ v.cell? (ad.add m) = some (.int .i64 T.last) := fun v hv => by
            have hb1 := (Now.blk (pre:=[_,_,_,_,_]) hS).below hv.undrew (Now.blk (pre:=[_,_,_,_,_]) hS).lt
            exact ⟨hb1.cell 0,hb1.cell 1,hb1.cell 2,hb1.cell 3,(((Sep.base hS).trans (hv.undrew.mono hS.size)).cell (p := ad.add m) (by rw [block_of_add];exact had)).trans hc⟩
          have hS6 := hS.drew
          go_wp2_with fail
          refine wp_region_ord Newer.grow [(0,true),(1,true),(2,true),(3,true),(4,true),(5,true),(6,true),(7,true)] [] (by kernel_rfl) (by kernel_rfl) rfl (by kernel_rfl) (by intro _ _ d _ _ h;cases d <;> exact h) ?_
          iterate 8
            (apply wpOrd_take
             · exact rfl
             · intro w1 h1
               (obtain ⟨c0,c1,c2,c3,c4⟩ := hcell w1 h1)
               go_simp
               first
                 | with_reducible exact ⟨rfl,sqN _⟩
             simp only [Act.put,sqA,sqB,sqC])
          refine wpOrd_done fun w8 h8 => ?_
          have hS8 := Now.below hS6 h8
          clear hcell hS hS6 h8
          go_wp2_with fail
          obtain ⟨r,kr,cur,e2,_⟩ := row_form (Now.row (pre:=[_,_]) hS8) (by omega)
          cases e2
          have hrow := Now.row (pre:=[_,_]) hS8
          have hml : m < T.lens.length := by omega
          have hrc := row_at hrow hml
          rw [List.getElem?_map,HLM.out] at hrc
          have hyb := Now.blk (pre:=[]) hS8
          have hcell : ∀ w1,Newer w8.drew w1 → w1.cell? ⟨y,0,none⟩ = some (.int .i64 T.segs) ∧ w1.cell? ⟨y,1,none⟩ = some (.int .i64 T.slots) ∧ w1.cell? ⟨y,2,none⟩ = some (.slice A1 T.order.length k1) ∧ w1.cell? ⟨y,3,none⟩ = some (.slice (some ⟨r,0,none⟩) T.lens.length k2) ∧ w1.cell? ⟨y,4,none⟩ = some (.slice A3 T.firsts.length k3) ∧ w1.cell? ⟨r,m,none⟩ = some (.int .i64 T.last) ∧ w1.frozen? ⟨r,m,none⟩ = false := fun w1 hw => by
            have hb1 := hyb.below hw.undrew hyb.lt
            exact ⟨hb1.cell 0,hb1.cell 1,hb1.cell 2,hb1.cell 3,hb1.cell 4,(hw.undrew.cell (lt_of_cell (a := ⟨r,m,none⟩) hrc.1)).trans hrc.1,(hw.undrew.frozen (lt_of_cell (a := ⟨r,m,none⟩) hrc.1)).trans hrc.2⟩
          have hml1 : (m : Int) < (T.lens.length : Int) := by omega
          clear hyb hrow hrc
          refine wp_region_ord Newer.grow [(0,true),(1,true),(2,true),(3,true),(4,true),(5,true),(6,true),(7,true),(8,true),(9,true),(10,false)] [10] (by kernel_rfl) (by kernel_rfl) rfl (by kernel_rfl) (by intro _ _ d _ _ h;cases d <;> exact h) ?_
          iterate 10
            (apply wpOrd_take
             · exact rfl
             · intro w1 h1
               (obtain ⟨c0,c1,c2,c3,c4,c5,c6⟩ := hcell w1 h1)
               go_simp
               first
                 | with_reducible exact ⟨rfl,sqN _⟩
             simp only [Act.put,sqA,sqB,sqC])
          refine wpOrd_last rfl (by decide) ?_
          intro v6 h7 K hK
          obtain ⟨c0,c1,c2,c3,c4,c5,c6⟩ := hcell v6 h7
          go_simp
          refine hK _ _ ?_
          have hS9 := Now.rowSet (pre:=[_,_]) (Now.below hS8.drew h7) hml (.int .i64 (T.last + 1))
          clear hK K hcell hS8 c0 c1 c2 c3 c4 c5 c6
          generalize v6.setCell ⟨r,m,none⟩ (.int .i64 (T.last + 1)) = v7 at hS9 ⊢
          refine wpOrd_done fun v8 h8 => ?_
          have hS10 := Now.below hS9 h8
          have hyb := Now.blk (pre:=[]) hS10
          have c0 : v8.cell? ⟨y,0,none⟩ = some (.int .i64 T.segs) := hyb.cell 0
          have c1 : v8.cell? ⟨y,1,none⟩ = some (.int .i64 T.slots) := hyb.cell 1
          have c2 : v8.cell? ⟨y,2,none⟩ = some (.slice A1 T.order.length k1) := hyb.cell 2
          have c3 : v8.cell? ⟨y,3,none⟩ = some (.slice (some ⟨r,0,none⟩) T.lens.length k2) := hyb.cell 3
          have c4 : v8.cell? ⟨y,4,none⟩ = some (.slice A3 T.firsts.length k3) := hyb.cell 4
          have hr := Now.blk (pre:=[_,_,_,_]) hS10
          have f := fun k => hr.frozen k
          have r0 : v8.cell? ⟨w.heap.size + 1,0,none⟩ = some (.int .i64 0) := hr.cell 0
          have r1 : v8.cell? ⟨w.heap.size + 1,1,none⟩ = some (.int .i64 0) := hr.cell 1
          have r2 : v8.cell? ⟨w.heap.size + 1,2,none⟩ = some (.slice none 0 0) := hr.cell 2
          have r3 : v8.cell? ⟨w.heap.size + 1,3,none⟩ = some (.slice none 0 0) := hr.cell 3
          have r4 : v8.cell? ⟨w.heap.size + 1,4,none⟩ = some (.slice none 0 0) := hr.cell 4
          have hS11 := Lib.hid (Now.set5 (pre:=[_,_,_,_]) hS10 (.int .i64 T.segs) (.int .i64 T.slots) (.slice A1 T.order.length k1) (.slice (some ⟨r,0,none⟩) T.lens.length k2) (.slice A3 T.firsts.length k3))
          clear hS9 hS10 hyb hr
          go_wp2_with fail
          have hlc : T.count.lens.length = T.lens.length := List.length_set ..
          have hfin : Sep w (((((v8.setCell ⟨w.heap.size + 1,0,none⟩ (.int .i64 T.segs)).setCell ⟨w.heap.size + 1,1,none⟩ (.int .i64 T.slots)).setCell ⟨w.heap.size + 1,2,none⟩ (.slice A1 T.order.length k1)).setCell ⟨w.heap.size + 1,3,none⟩ (.slice (some ⟨r,0,none⟩) T.lens.length k2)).setCell ⟨w.heap.size + 1,4,none⟩ (.slice A3 T.firsts.length k3)) (tabParts T.count A1 k1 (some ⟨r,0,none⟩) k2 A3 k3) := by
            have h12 := Now.drop (pre:=[_,_,_]) (Now.drop (pre:=[_,_,_]) (Now.drop (pre:=[]) hS11.out))
            show Sep w _ [_,Thing.row _ 1 (.slice _ T.count.lens.length _) T.count.lens.length (ints T.count.lens),_]
            rw [hlc,show ints T.count.lens = (ints T.lens).set m (.int .i64 (T.last + 1)) by
              show ints (T.lens.set (T.lens.length - 1) _) = _
              rw [HLEN.out,Nat.add_sub_cancel];exact List.map_set ..]
            exact h12
          refine bodyPost_ret (v := .tuple #[.agg #[.int .i64 T.segs, .int .i64 T.slots, .slice A1 T.order.length k1, .slice (some ⟨r,0,none⟩) T.lens.length k2, .slice A3 T.firsts.length k3], .int .i64 0]) ?_ rfl ⟨A1,k1,some ⟨r,0,none⟩,k2,A3,k3,by show _ = Ending.returned (.tuple #[.agg #[_,_,_, .slice _ T.count.lens.length _,_],_]);rw [hlc];rfl,hfin⟩
          exact results_row_tmp rfl _ _ _ _ _ _ _ (by simp) (by simp) (Now.blk (pre:=[_,_,_,_]) hS11.out) Tryz.underlying71 rfl (by kernel_rfl)
    · refine ⟨_,rfl,?_⟩
      intro w1 h1 K hK
      replace hS := Now.below hS h1
      have hyne : w1.heap.size ≠ w.heap.size + 1 := fun e => absurd (Now.blk (pre:=[]) hS).lt (by rw [e];exact Nat.lt_irrefl _)
      replace hS := Now.pushCells hS 71 #[.int .i64 0, .int .i64 0, .slice none 0 0, .slice none 0 0, .slice none 0 0]
      go_simp
      refine hK _ _ (fun _ hg => ⟨Below.heap_alloc _ _ _ hg,by simp⟩) ?_
      clear hK K h1
      try simp only [Act.put,sqA,sqB,sqC]
      generalize w1.alloc (.cells #[.int .i64 0, .int .i64 0, .slice none 0 0, .slice none 0 0, .slice none 0 0] 71) = wa at hS ⊢
      generalize w1.heap.size = y at hS hyne ⊢
      refine wpAnyE_fork [1] (by kernel_rfl) (by simp) ?_
      refine sqM ?_
      · refine ⟨_,rfl,?_⟩
        intro w1 h1 K hK
        replace hS := Now.below hS h1
        go_simp
        go_at_call 142
        refine (hown w1 (Sep.base hS)).mono ?_
        rintro e w3 ⟨A1,k1,A2,k2,A3,k3,rfl,hO⟩
        refine hK _ _ (fun _ hg => ⟨(Sep.base hO).block _ hg,hO.size⟩) ?_
        replace hS := Now.pushAll hS hO
        clear hK K h1 hO
        try simp only [Act.put,sqA,sqB,sqC]
        refine wpAnyE_fork [7] (by kernel_rfl) (by simp) ?_
        refine sqM ?_
        · refine ⟨_,rfl,?_⟩
          intro w1 h1 K hK
          replace hS := Now.below hS h1
          obtain ⟨r0,r1,r2,r3,r4,fr,hS4,hB4⟩ := ref8_set (pre:=[_,_,_]) hS (.int .i64 T.segs) (.int .i64 T.slots) (.slice A1 T.order.length k1) (.slice A2 T.lens.length k2) (.slice A3 T.firsts.length k3)
          have f0 := fr 0
          have f1 := fr 1
          have f2 := fr 2
          have f3 := fr 3
          have f4 := fr 4
          go_simp
          have hbo := Now.blk (pre:=[_,_,_,_,_]) hS
          have hbn := Now.blk (pre:=[_,_,_,_,_]) hS4
          refine hK _ _ (fun _ _ => ⟨hbn.trans hbo.symm,hB4⟩) ?_
          replace hS := hS4
          clear hK K h1 hS4 hbo hbn r0 r1 r2 r3 r4 fr f0 f1 f2 f3 f4
          try simp only [Act.put,sqA,sqB,sqC]
          apply wpAnyE_pure (KeepG.grow w.heap.size) 8
          · kernel_rfl
          · intro _ _ d _ _ h;cases d <;> exact h
          · exact rfl
          · kernel_rfl
          · intro wv
            go_simp
            exact ⟨rfl,sqN _⟩
          try simp only [Act.put,sqA,sqB,sqC]
          replace hS := Now.front (pre:=[_,_,_,_,_]) hS
          replace hS := Now.front (pre:=[_,_,_,_,_]) hS
          replace hS := Now.front (pre:=[_,_,_,_]) hS
          replace hS := Now.front (pre:=[_,_,_,_]) hS
          replace hS := Now.front (pre:=[_,_,_,_]) hS
          replace hS := Now.front (pre:=[_,_,_,_,_]) hS
          refine wpAnyE_end (by kernel_rfl) fun w5 h5 => ?_
          replace hS := Now.below hS h5
          clear h5
          have hcell : ∀ v,Newer w5.drew v → v.cell? ⟨w.heap.size,0,none⟩ = some (.int .i64 T.segs) ∧ v.cell? ⟨w.heap.size,1,none⟩ = some (.int .i64 T.slots) ∧ v.cell? ⟨w.heap.size,2,none⟩ = some (.slice AO T.order.length cO) ∧ v.cell? ⟨w.heap.size,3,none⟩ = some (.slice (some ad) T.lens.length cL) ∧ v.cell? (ad.add m) = some (.int .i64 T.last) := fun v hv => by
            have hb1 := (Now.blk (pre:=[_,_,_,_,_]) hS).below hv.undrew (Now.blk (pre:=[_,_,_,_,_]) hS).lt
            exact ⟨hb1.cell 0,hb1.cell 1,hb1.cell 2,hb1.cell 3,(((Sep.base hS).trans (hv.undrew.mono hS.size)).cell (p := ad.add m) (by rw [block_of_add];exact had)).trans hc⟩
          have hS6 := hS.drew
          go_wp2_with fail
          refine wp_region_ord Newer.grow [(0,true),(1,true),(2,true),(3,true),(4,true),(5,true),(6,true),(7,true)] [] (by kernel_rfl) (by kernel_rfl) rfl (by kernel_rfl) (by intro _ _ d _ _ h;cases d <;> exact h) ?_
          iterate 8
            (apply wpOrd_take
             · exact rfl
             · intro w1 h1
               (obtain ⟨c0,c1,c2,c3,c4⟩ := hcell w1 h1)
               go_simp
               first
                 | with_reducible exact ⟨rfl,sqN _⟩
             simp only [Act.put,sqA,sqB,sqC])
          refine wpOrd_done fun w8 h8 => ?_
          have hS8 := Now.below hS6 h8
          clear hcell hS hS6 h8
          go_wp2_with fail
          obtain ⟨r,kr,cur,e2,_⟩ := row_form (Now.row (pre:=[_,_]) hS8) (by omega)
          cases e2
          have hrow := Now.row (pre:=[_,_]) hS8
          have hml : m < T.lens.length := by omega
          have hrc := row_at hrow hml
          rw [List.getElem?_map,HLM.out] at hrc
          have hyb := Now.blk (pre:=[]) hS8
          have hcell : ∀ w1,Newer w8.drew w1 → w1.cell? ⟨y,0,none⟩ = some (.int .i64 T.segs) ∧ w1.cell? ⟨y,1,none⟩ = some (.int .i64 T.slots) ∧ w1.cell? ⟨y,2,none⟩ = some (.slice A1 T.order.length k1) ∧ w1.cell? ⟨y,3,none⟩ = some (.slice (some ⟨r,0,none⟩) T.lens.length k2) ∧ w1.cell? ⟨y,4,none⟩ = some (.slice A3 T.firsts.length k3) ∧ w1.cell? ⟨r,m,none⟩ = some (.int .i64 T.last) ∧ w1.frozen? ⟨r,m,none⟩ = false := fun w1 hw => by
            have hb1 := hyb.below hw.undrew hyb.lt
            exact ⟨hb1.cell 0,hb1.cell 1,hb1.cell 2,hb1.cell 3,hb1.cell 4,(hw.undrew.cell (lt_of_cell (a := ⟨r,m,none⟩) hrc.1)).trans hrc.1,(hw.undrew.frozen (lt_of_cell (a := ⟨r,m,none⟩) hrc.1)).trans hrc.2⟩
          have hml1 : (m : Int) < (T.lens.length : Int) := by omega
          clear hyb hrow hrc
          refine wp_region_ord Newer.grow [(0,true),(1,true),(2,true),(3,true),(4,true),(5,true),(6,true),(7,true),(8,true),(9,true),(10,false)] [10] (by kernel_rfl) (by kernel_rfl) rfl (by kernel_rfl) (by intro _ _ d _ _ h;cases d <;> exact h) ?_
          iterate 10
            (apply wpOrd_take
             · exact rfl
             · intro w1 h1
               (obtain ⟨c0,c1,c2,c3,c4,c5,c6⟩ := hcell w1 h1)
               go_simp
               first
                 | with_reducible exact ⟨rfl,sqN _⟩
             simp only [Act.put,sqA,sqB,sqC])
          refine wpOrd_last rfl (by decide) ?_
          intro v6 h7 K hK
          obtain ⟨c0,c1,c2,c3,c4,c5,c6⟩ := hcell v6 h7
          go_simp
          refine hK _ _ ?_
          have hS9 := Now.rowSet (pre:=[_,_]) (Now.below hS8.drew h7) hml (.int .i64 (T.last + 1))
          clear hK K hcell hS8 c0 c1 c2 c3 c4 c5 c6
          generalize v6.setCell ⟨r,m,none⟩ (.int .i64 (T.last + 1)) = v7 at hS9 ⊢
          refine wpOrd_done fun v8 h8 => ?_
          have hS10 := Now.below hS9 h8
          have hyb := Now.blk (pre:=[]) hS10
          have c0 : v8.cell? ⟨y,0,none⟩ = some (.int .i64 T.segs) := hyb.cell 0
          have c1 : v8.cell? ⟨y,1,none⟩ = some (.int .i64 T.slots) := hyb.cell 1
          have c2 : v8.cell? ⟨y,2,none⟩ = some (.slice A1 T.order.length k1) := hyb.cell 2
          have c3 : v8.cell? ⟨y,3,none⟩ = some (.slice (some ⟨r,0,none⟩) T.lens.length k2) := hyb.cell 3
          have c4 : v8.cell? ⟨y,4,none⟩ = some (.slice A3 T.firsts.length k3) := hyb.cell 4
          have hr := Now.blk (pre:=[_,_,_,_]) hS10
          have f := fun k => hr.frozen k
          have r0 : v8.cell? ⟨w.heap.size + 1,0,none⟩ = some (.int .i64 0) := hr.cell 0
          have r1 : v8.cell? ⟨w.heap.size + 1,1,none⟩ = some (.int .i64 0) := hr.cell 1
          have r2 : v8.cell? ⟨w.heap.size + 1,2,none⟩ = some (.slice none 0 0) := hr.cell 2
          have r3 : v8.cell? ⟨w.heap.size + 1,3,none⟩ = some (.slice none 0 0) := hr.cell 3
          have r4 : v8.cell? ⟨w.heap.size + 1,4,none⟩ = some (.slice none 0 0) := hr.cell 4
          have hS11 := Lib.hid (Now.set5 (pre:=[_,_,_,_]) hS10 (.int .i64 T.segs) (.int .i64 T.slots) (.slice A1 T.order.length k1) (.slice (some ⟨r,0,none⟩) T.lens.length k2) (.slice A3 T.firsts.length k3))
          clear hS9 hS10 hyb hr
          go_wp2_with fail
          have hlc : T.count.lens.length = T.lens.length := List.length_set ..
          have hfin : Sep w (((((v8.setCell ⟨w.heap.size + 1,0,none⟩ (.int .i64 T.segs)).setCell ⟨w.heap.size + 1,1,none⟩ (.int .i64 T.slots)).setCell ⟨w.heap.size + 1,2,none⟩ (.slice A1 T.order.length k1)).setCell ⟨w.heap.size + 1,3,none⟩ (.slice (some ⟨r,0,none⟩) T.lens.length k2)).setCell ⟨w.heap.size + 1,4,none⟩ (.slice A3 T.firsts.length k3)) (tabParts T.count A1 k1 (some ⟨r,0,none⟩) k2 A3 k3) := by
            have h12 := Now.drop (pre:=[_,_,_]) (Now.drop (pre:=[_,_,_]) (Now.drop (pre:=[]) hS11.out))
            show Sep w _ [_,Thing.row _ 1 (.slice _ T.count.lens.length _) T.count.lens.length (ints T.count.lens),_]
            rw [hlc,show ints T.count.lens = (ints T.lens).set m (.int .i64 (T.last + 1)) by
              show ints (T.lens.set (T.lens.length - 1) _) = _
              rw [HLEN.out,Nat.add_sub_cancel];exact List.map_set ..]
            exact h12
          refine bodyPost_ret (v := .tuple #[.agg #[.int .i64 T.segs, .int .i64 T.slots, .slice A1 T.order.length k1, .slice (some ⟨r,0,none⟩) T.lens.length k2, .slice A3 T.firsts.length k3], .int .i64 0]) ?_ rfl ⟨A1,k1,some ⟨r,0,none⟩,k2,A3,k3,by show _ = Ending.returned (.tuple #[.agg #[_,_,_, .slice _ T.count.lens.length _,_],_]);rw [hlc];rfl,hfin⟩
          exact results_row_tmp rfl _ _ _ _ _ _ _ (by simp) (by simp) (Now.blk (pre:=[_,_,_,_]) hS11.out) Tryz.underlying71 rfl (by kernel_rfl)
  · refine ⟨_,rfl,?_⟩
    intro w1 h1 K hK
    replace hS := Now.below hS h1
    have hyne : w1.heap.size ≠ w.heap.size + 1 := fun e => absurd (Now.blk (pre:=[]) hS).lt (by rw [e];exact Nat.lt_irrefl _)
    replace hS := Now.pushCells hS 71 #[.int .i64 0, .int .i64 0, .slice none 0 0, .slice none 0 0, .slice none 0 0]
    go_simp
    refine hK _ _ (fun _ hg => ⟨Below.heap_alloc _ _ _ hg,by simp⟩) ?_
    clear hK K h1
    try simp only [Act.put,sqA,sqB,sqC]
    generalize w1.alloc (.cells #[.int .i64 0, .int .i64 0, .slice none 0 0, .slice none 0 0, .slice none 0 0] 71) = wa at hS ⊢
    generalize w1.heap.size = y at hS hyne ⊢
    refine wpAnyE_fork [1,5] (by kernel_rfl) (by simp) ?_
    refine List.forall_mem_cons.2 ⟨?_,List.forall_mem_cons.2 ⟨?_,List.forall_mem_nil _⟩⟩
    · refine ⟨_,rfl,?_⟩
      intro w1 h1 K hK
      replace hS := Now.below hS h1
      go_simp
      go_at_call 142
      refine (hown w1 (Sep.base hS)).mono ?_
      rintro e w3 ⟨A1,k1,A2,k2,A3,k3,rfl,hO⟩
      refine hK _ _ (fun _ hg => ⟨(Sep.base hO).block _ hg,hO.size⟩) ?_
      replace hS := Now.pushAll hS hO
      clear hK K h1 hO
      try simp only [Act.put,sqA,sqB,sqC]
      refine wpAnyE_fork [5,7] (by kernel_rfl) (by simp) ?_
      refine List.forall_mem_cons.2 ⟨?_,List.forall_mem_cons.2 ⟨?_,List.forall_mem_nil _⟩⟩
      · refine ⟨_,rfl,?_⟩
        intro w1 h1 K hK
        replace hS := Now.below hS h1
        go_simp
        refine hK _ _ (fun _ _ => ⟨rfl,Nat.le_refl _⟩) ?_
        clear hK K h1
        try simp only [Act.put,sqA,sqB,sqC]
        refine wpAnyE_fork [7] (by kernel_rfl) (by simp) ?_
        refine sqM ?_
        · refine ⟨_,rfl,?_⟩
          intro w1 h1 K hK
          replace hS := Now.below hS h1
          obtain ⟨r0,r1,r2,r3,r4,fr,hS4,hB4⟩ := ref8_set (pre:=[_,_,_]) hS (.int .i64 T.segs) (.int .i64 T.slots) (.slice A1 T.order.length k1) (.slice A2 T.lens.length k2) (.slice A3 T.firsts.length k3)
          have f0 := fr 0
          have f1 := fr 1
          have f2 := fr 2
          have f3 := fr 3
          have f4 := fr 4
          go_simp
          have hbo := Now.blk (pre:=[_,_,_,_,_]) hS
          have hbn := Now.blk (pre:=[_,_,_,_,_]) hS4
          refine hK _ _ (fun _ _ => ⟨hbn.trans hbo.symm,hB4⟩) ?_
          replace hS := hS4
          clear hK K h1 hS4 hbo hbn r0 r1 r2 r3 r4 fr f0 f1 f2 f3 f4
          try simp only [Act.put,sqA,sqB,sqC]
          apply wpAnyE_pure (KeepG.grow w.heap.size) 8
          · kernel_rfl
          · intro _ _ d _ _ h;cases d <;> exact h
          · exact rfl
          · kernel_rfl
          · intro wv
            go_simp
            exact ⟨rfl,sqN _⟩
          try simp only [Act.put,sqA,sqB,sqC]
          replace hS := Now.front (pre:=[_,_,_,_,_]) hS
          replace hS := Now.front (pre:=[_,_,_,_,_]) hS
          replace hS := Now.front (pre:=[_,_,_,_]) hS
          replace hS := Now.front (pre:=[_,_,_,_]) hS
          replace hS := Now.front (pre:=[_,_,_,_]) hS
          replace hS := Now.front (pre:=[_,_,_,_,_]) hS
          refine wpAnyE_end (by kernel_rfl) fun w5 h5 => ?_
          replace hS := Now.below hS h5
          clear h5
          have hcell : ∀ v,Newer w5.drew v → v.cell? ⟨w.heap.size,0,none⟩ = some (.int .i64 T.segs) ∧ v.cell? ⟨w.heap.size,1,none⟩ = some (.int .i64 T.slots) ∧ v.cell? ⟨w.heap.size,2,none⟩ = some (.slice AO T.order.length cO) ∧ v.cell? ⟨w.heap.size,3,none⟩ = some (.slice (some ad) T.lens.length cL) ∧ v.cell? (ad.add m) = some (.int .i64 T.last) := fun v hv => by
            have hb1 := (Now.blk (pre:=[_,_,_,_,_]) hS).below hv.undrew (Now.blk (pre:=[_,_,_,_,_]) hS).lt
            exact ⟨hb1.cell 0,hb1.cell 1,hb1.cell 2,hb1.cell 3,(((Sep.base hS).trans (hv.undrew.mono hS.size)).cell (p := ad.add m) (by rw [block_of_add];exact had)).trans hc⟩
          have hS6 := hS.drew
          go_wp2_with fail
          refine wp_region_ord Newer.grow [(0,true),(1,true),(2,true),(3,true),(4,true),(5,true),(6,true),(7,true)] [] (by kernel_rfl) (by kernel_rfl) rfl (by kernel_rfl) (by intro _ _ d _ _ h;cases d <;> exact h) ?_
          iterate 8
            (apply wpOrd_take
             · exact rfl
             · intro w1 h1
               (obtain ⟨c0,c1,c2,c3,c4⟩ := hcell w1 h1)
               go_simp
               first
                 | with_reducible exact ⟨rfl,sqN _⟩
             simp only [Act.put,sqA,sqB,sqC])
          refine wpOrd_done fun w8 h8 => ?_
          have hS8 := Now.below hS6 h8
          clear hcell hS hS6 h8
          go_wp2_with fail
          obtain ⟨r,kr,cur,e2,_⟩ := row_form (Now.row (pre:=[_,_]) hS8) (by omega)
          cases e2
          have hrow := Now.row (pre:=[_,_]) hS8
          have hml : m < T.lens.length := by omega
          have hrc := row_at hrow hml
          rw [List.getElem?_map,HLM.out] at hrc
          have hyb := Now.blk (pre:=[]) hS8
          have hcell : ∀ w1,Newer w8.drew w1 → w1.cell? ⟨y,0,none⟩ = some (.int .i64 T.segs) ∧ w1.cell? ⟨y,1,none⟩ = some (.int .i64 T.slots) ∧ w1.cell? ⟨y,2,none⟩ = some (.slice A1 T.order.length k1) ∧ w1.cell? ⟨y,3,none⟩ = some (.slice (some ⟨r,0,none⟩) T.lens.length k2) ∧ w1.cell? ⟨y,4,none⟩ = some (.slice A3 T.firsts.length k3) ∧ w1.cell? ⟨r,m,none⟩ = some (.int .i64 T.last) ∧ w1.frozen? ⟨r,m,none⟩ = false := fun w1 hw => by
            have hb1 := hyb.below hw.undrew hyb.lt
            exact ⟨hb1.cell 0,hb1.cell 1,hb1.cell 2,hb1.cell 3,hb1.cell 4,(hw.undrew.cell (lt_of_cell (a := ⟨r,m,none⟩) hrc.1)).trans hrc.1,(hw.undrew.frozen (lt_of_cell (a := ⟨r,m,none⟩) hrc.1)).trans hrc.2⟩
          have hml1 : (m : Int) < (T.lens.length : Int) := by omega
          clear hyb hrow hrc
          refine wp_region_ord Newer.grow [(0,true),(1,true),(2,true),(3,true),(4,true),(5,true),(6,true),(7,true),(8,true),(9,true),(10,false)] [10] (by kernel_rfl) (by kernel_rfl) rfl (by kernel_rfl) (by intro _ _ d _ _ h;cases d <;> exact h) ?_
          iterate 10
            (apply wpOrd_take
             · exact rfl
             · intro w1 h1
               (obtain ⟨c0,c1,c2,c3,c4,c5,c6⟩ := hcell w1 h1)
               go_simp
               first
                 | with_reducible exact ⟨rfl,sqN _⟩
             simp only [Act.put,sqA,sqB,sqC])
          refine wpOrd_last rfl (by decide) ?_
          intro v6 h7 K hK
          obtain ⟨c0,c1,c2,c3,c4,c5,c6⟩ := hcell v6 h7
          go_simp
          refine hK _ _ ?_
          have hS9 := Now.rowSet (pre:=[_,_]) (Now.below hS8.drew h7) hml (.int .i64 (T.last + 1))
          clear hK K hcell hS8 c0 c1 c2 c3 c4 c5 c6
          generalize v6.setCell ⟨r,m,none⟩ (.int .i64 (T.last + 1)) = v7 at hS9 ⊢
          refine wpOrd_done fun v8 h8 => ?_
          have hS10 := Now.below hS9 h8
          have hyb := Now.blk (pre:=[]) hS10
          have c0 : v8.cell? ⟨y,0,none⟩ = some (.int .i64 T.segs) := hyb.cell 0
          have c1 : v8.cell? ⟨y,1,none⟩ = some (.int .i64 T.slots) := hyb.cell 1
          have c2 : v8.cell? ⟨y,2,none⟩ = some (.slice A1 T.order.length k1) := hyb.cell 2
          have c3 : v8.cell? ⟨y,3,none⟩ = some (.slice (some ⟨r,0,none⟩) T.lens.length k2) := hyb.cell 3
          have c4 : v8.cell? ⟨y,4,none⟩ = some (.slice A3 T.firsts.length k3) := hyb.cell 4
          have hr := Now.blk (pre:=[_,_,_,_]) hS10
          have f := fun k => hr.frozen k
          have r0 : v8.cell? ⟨w.heap.size + 1,0,none⟩ = some (.int .i64 0) := hr.cell 0
          have r1 : v8.cell? ⟨w.heap.size + 1,1,none⟩ = some (.int .i64 0) := hr.cell 1
          have r2 : v8.cell? ⟨w.heap.size + 1,2,none⟩ = some (.slice none 0 0) := hr.cell 2
          have r3 : v8.cell? ⟨w.heap.size + 1,3,none⟩ = some (.slice none 0 0) := hr.cell 3
          have r4 : v8.cell? ⟨w.heap.size + 1,4,none⟩ = some (.slice none 0 0) := hr.cell 4
          have hS11 := Lib.hid (Now.set5 (pre:=[_,_,_,_]) hS10 (.int .i64 T.segs) (.int .i64 T.slots) (.slice A1 T.order.length k1) (.slice (some ⟨r,0,none⟩) T.lens.length k2) (.slice A3 T.firsts.length k3))
          clear hS9 hS10 hyb hr
          go_wp2_with fail
          have hlc : T.count.lens.length = T.lens.length := List.length_set ..
          have hfin : Sep w (((((v8.setCell ⟨w.heap.size + 1,0,none⟩ (.int .i64 T.segs)).setCell ⟨w.heap.size + 1,1,none⟩ (.int .i64 T.slots)).setCell ⟨w.heap.size + 1,2,none⟩ (.slice A1 T.order.length k1)).setCell ⟨w.heap.size + 1,3,none⟩ (.slice (some ⟨r,0,none⟩) T.lens.length k2)).setCell ⟨w.heap.size + 1,4,none⟩ (.slice A3 T.firsts.length k3)) (tabParts T.count A1 k1 (some ⟨r,0,none⟩) k2 A3 k3) := by
            have h12 := Now.drop (pre:=[_,_,_]) (Now.drop (pre:=[_,_,_]) (Now.drop (pre:=[]) hS11.out))
            show Sep w _ [_,Thing.row _ 1 (.slice _ T.count.lens.length _) T.count.lens.length (ints T.count.lens),_]
            rw [hlc,show ints T.count.lens = (ints T.lens).set m (.int .i64 (T.last + 1)) by
              show ints (T.lens.set (T.lens.length - 1) _) = _
              rw [HLEN.out,Nat.add_sub_cancel];exact List.map_set ..]
            exact h12
          refine bodyPost_ret (v := .tuple #[.agg #[.int .i64 T.segs, .int .i64 T.slots, .slice A1 T.order.length k1, .slice (some ⟨r,0,none⟩) T.lens.length k2, .slice A3 T.firsts.length k3], .int .i64 0]) ?_ rfl ⟨A1,k1,some ⟨r,0,none⟩,k2,A3,k3,by show _ = Ending.returned (.tuple #[.agg #[_,_,_, .slice _ T.count.lens.length _,_],_]);rw [hlc];rfl,hfin⟩
          exact results_row_tmp rfl _ _ _ _ _ _ _ (by simp) (by simp) (Now.blk (pre:=[_,_,_,_]) hS11.out) Tryz.underlying71 rfl (by kernel_rfl)
      · refine ⟨_,rfl,?_⟩
        intro w1 h1 K hK
        replace hS := Now.below hS h1
        obtain ⟨r0,r1,r2,r3,r4,fr,hS4,hB4⟩ := ref8_set (pre:=[_,_,_]) hS (.int .i64 T.segs) (.int .i64 T.slots) (.slice A1 T.order.length k1) (.slice A2 T.lens.length k2) (.slice A3 T.firsts.length k3)
        have f0 := fr 0
        have f1 := fr 1
        have f2 := fr 2
        have f3 := fr 3
        have f4 := fr 4
        go_simp
        have hbo := Now.blk (pre:=[_,_,_,_,_]) hS
        have hbn := Now.blk (pre:=[_,_,_,_,_]) hS4
        refine hK _ _ (fun _ _ => ⟨hbn.trans hbo.symm,hB4⟩) ?_
        replace hS := hS4
        clear hK K h1 hS4 hbo hbn r0 r1 r2 r3 r4 fr f0 f1 f2 f3 f4
        try simp only [Act.put,sqA,sqB,sqC]
        refine wpAnyE_fork [5] (by kernel_rfl) (by simp) ?_
        refine sqM ?_
        · refine ⟨_,rfl,?_⟩
          intro w1 h1 K hK
          replace hS := Now.below hS h1
          go_simp
          refine hK _ _ (fun _ _ => ⟨rfl,Nat.le_refl _⟩) ?_
          clear hK K h1
          try simp only [Act.put,sqA,sqB,sqC]
          apply wpAnyE_pure (KeepG.grow w.heap.size) 8
          · kernel_rfl
          · intro _ _ d _ _ h;cases d <;> exact h
          · exact rfl
          · kernel_rfl
          · intro wv
            go_simp
            exact ⟨rfl,sqN _⟩
          try simp only [Act.put,sqA,sqB,sqC]
          replace hS := Now.front (pre:=[_,_,_,_,_]) hS
          replace hS := Now.front (pre:=[_,_,_,_,_]) hS
          replace hS := Now.front (pre:=[_,_,_,_]) hS
          replace hS := Now.front (pre:=[_,_,_,_]) hS
          replace hS := Now.front (pre:=[_,_,_,_]) hS
          replace hS := Now.front (pre:=[_,_,_,_,_]) hS
          refine wpAnyE_end (by kernel_rfl) fun w5 h5 => ?_
          replace hS := Now.below hS h5
          clear h5
          have hcell : ∀ v,Newer w5.drew v → v.cell? ⟨w.heap.size,0,none⟩ = some (.int .i64 T.segs) ∧ v.cell? ⟨w.heap.size,1,none⟩ = some (.int .i64 T.slots) ∧ v.cell? ⟨w.heap.size,2,none⟩ = some (.slice AO T.order.length cO) ∧ v.cell? ⟨w.heap.size,3,none⟩ = some (.slice (some ad) T.lens.length cL) ∧ v.cell? (ad.add m) = some (.int .i64 T.last) := fun v hv => by
            have hb1 := (Now.blk (pre:=[_,_,_,_,_]) hS).below hv.undrew (Now.blk (pre:=[_,_,_,_,_]) hS).lt
            exact ⟨hb1.cell 0,hb1.cell 1,hb1.cell 2,hb1.cell 3,(((Sep.base hS).trans (hv.undrew.mono hS.size)).cell (p := ad.add m) (by rw [block_of_add];exact had)).trans hc⟩
          have hS6 := hS.drew
          go_wp2_with fail
          refine wp_region_ord Newer.grow [(0,true),(1,true),(2,true),(3,true),(4,true),(5,true),(6,true),(7,true)] [] (by kernel_rfl) (by kernel_rfl) rfl (by kernel_rfl) (by intro _ _ d _ _ h;cases d <;> exact h) ?_
          iterate 8
            (apply wpOrd_take
             · exact rfl
             · intro w1 h1
               (obtain ⟨c0,c1,c2,c3,c4⟩ := hcell w1 h1)
               go_simp
               first
                 | with_reducible exact ⟨rfl,sqN _⟩
             simp only [Act.put,sqA,sqB,sqC])
          refine wpOrd_done fun w8 h8 => ?_
          have hS8 := Now.below hS6 h8
          clear hcell hS hS6 h8
          go_wp2_with fail
          obtain ⟨r,kr,cur,e2,_⟩ := row_form (Now.row (pre:=[_,_]) hS8) (by omega)
          cases e2
          have hrow := Now.row (pre:=[_,_]) hS8
          have hml : m < T.lens.length := by omega
          have hrc := row_at hrow hml
          rw [List.getElem?_map,HLM.out] at hrc
          have hyb := Now.blk (pre:=[]) hS8
          have hcell : ∀ w1,Newer w8.drew w1 → w1.cell? ⟨y,0,none⟩ = some (.int .i64 T.segs) ∧ w1.cell? ⟨y,1,none⟩ = some (.int .i64 T.slots) ∧ w1.cell? ⟨y,2,none⟩ = some (.slice A1 T.order.length k1) ∧ w1.cell? ⟨y,3,none⟩ = some (.slice (some ⟨r,0,none⟩) T.lens.length k2) ∧ w1.cell? ⟨y,4,none⟩ = some (.slice A3 T.firsts.length k3) ∧ w1.cell? ⟨r,m,none⟩ = some (.int .i64 T.last) ∧ w1.frozen? ⟨r,m,none⟩ = false := fun w1 hw => by
            have hb1 := hyb.below hw.undrew hyb.lt
            exact ⟨hb1.cell 0,hb1.cell 1,hb1.cell 2,hb1.cell 3,hb1.cell 4,(hw.undrew.cell (lt_of_cell (a := ⟨r,m,none⟩) hrc.1)).trans hrc.1,(hw.undrew.frozen (lt_of_cell (a := ⟨r,m,none⟩) hrc.1)).trans hrc.2⟩
          have hml1 : (m : Int) < (T.lens.length : Int) := by omega
          clear hyb hrow hrc
          refine wp_region_ord Newer.grow [(0,true),(1,true),(2,true),(3,true),(4,true),(5,true),(6,true),(7,true),(8,true),(9,true),(10,false)] [10] (by kernel_rfl) (by kernel_rfl) rfl (by kernel_rfl) (by intro _ _ d _ _ h;cases d <;> exact h) ?_
          iterate 10
            (apply wpOrd_take
             · exact rfl
             · intro w1 h1
               (obtain ⟨c0,c1,c2,c3,c4,c5,c6⟩ := hcell w1 h1)
               go_simp
               first
                 | with_reducible exact ⟨rfl,sqN _⟩
             simp only [Act.put,sqA,sqB,sqC])
          refine wpOrd_last rfl (by decide) ?_
          intro v6 h7 K hK
          obtain ⟨c0,c1,c2,c3,c4,c5,c6⟩ := hcell v6 h7
          go_simp
          refine hK _ _ ?_
          have hS9 := Now.rowSet (pre:=[_,_]) (Now.below hS8.drew h7) hml (.int .i64 (T.last + 1))
          clear hK K hcell hS8 c0 c1 c2 c3 c4 c5 c6
          generalize v6.setCell ⟨r,m,none⟩ (.int .i64 (T.last + 1)) = v7 at hS9 ⊢
          refine wpOrd_done fun v8 h8 => ?_
          have hS10 := Now.below hS9 h8
          have hyb := Now.blk (pre:=[]) hS10
          have c0 : v8.cell? ⟨y,0,none⟩ = some (.int .i64 T.segs) := hyb.cell 0
          have c1 : v8.cell? ⟨y,1,none⟩ = some (.int .i64 T.slots) := hyb.cell 1
          have c2 : v8.cell? ⟨y,2,none⟩ = some (.slice A1 T.order.length k1) := hyb.cell 2
          have c3 : v8.cell? ⟨y,3,none⟩ = some (.slice (some ⟨r,0,none⟩) T.lens.length k2) := hyb.cell 3
          have c4 : v8.cell? ⟨y,4,none⟩ = some (.slice A3 T.firsts.length k3) := hyb.cell 4
          have hr := Now.blk (pre:=[_,_,_,_]) hS10
          have f := fun k => hr.frozen k
          have r0 : v8.cell? ⟨w.heap.size + 1,0,none⟩ = some (.int .i64 0) := hr.cell 0
          have r1 : v8.cell? ⟨w.heap.size + 1,1,none⟩ = some (.int .i64 0) := hr.cell 1
          have r2 : v8.cell? ⟨w.heap.size + 1,2,none⟩ = some (.slice none 0 0) := hr.cell 2
          have r3 : v8.cell? ⟨w.heap.size + 1,3,none⟩ = some (.slice none 0 0) := hr.cell 3
          have r4 : v8.cell? ⟨w.heap.size + 1,4,none⟩ = some (.slice none 0 0) := hr.cell 4
          have hS11 := Lib.hid (Now.set5 (pre:=[_,_,_,_]) hS10 (.int .i64 T.segs) (.int .i64 T.slots) (.slice A1 T.order.length k1) (.slice (some ⟨r,0,none⟩) T.lens.length k2) (.slice A3 T.firsts.length k3))
          clear hS9 hS10 hyb hr
          go_wp2_with fail
          have hlc : T.count.lens.length = T.lens.length := List.length_set ..
          have hfin : Sep w (((((v8.setCell ⟨w.heap.size + 1,0,none⟩ (.int .i64 T.segs)).setCell ⟨w.heap.size + 1,1,none⟩ (.int .i64 T.slots)).setCell ⟨w.heap.size + 1,2,none⟩ (.slice A1 T.order.length k1)).setCell ⟨w.heap.size + 1,3,none⟩ (.slice (some ⟨r,0,none⟩) T.lens.length k2)).setCell ⟨w.heap.size + 1,4,none⟩ (.slice A3 T.firsts.length k3)) (tabParts T.count A1 k1 (some ⟨r,0,none⟩) k2 A3 k3) := by
            have h12 := Now.drop (pre:=[_,_,_]) (Now.drop (pre:=[_,_,_]) (Now.drop (pre:=[]) hS11.out))
            show Sep w _ [_,Thing.row _ 1 (.slice _ T.count.lens.length _) T.count.lens.length (ints T.count.lens),_]
            rw [hlc,show ints T.count.lens = (ints T.lens).set m (.int .i64 (T.last + 1)) by
              show ints (T.lens.set (T.lens.length - 1) _) = _
              rw [HLEN.out,Nat.add_sub_cancel];exact List.map_set ..]
            exact h12
          refine bodyPost_ret (v := .tuple #[.agg #[.int .i64 T.segs, .int .i64 T.slots, .slice A1 T.order.length k1, .slice (some ⟨r,0,none⟩) T.lens.length k2, .slice A3 T.firsts.length k3], .int .i64 0]) ?_ rfl ⟨A1,k1,some ⟨r,0,none⟩,k2,A3,k3,by show _ = Ending.returned (.tuple #[.agg #[_,_,_, .slice _ T.count.lens.length _,_],_]);rw [hlc];rfl,hfin⟩
          exact results_row_tmp rfl _ _ _ _ _ _ _ (by simp) (by simp) (Now.blk (pre:=[_,_,_,_]) hS11.out) Tryz.underlying71 rfl (by kernel_rfl)
    · refine ⟨_,rfl,?_⟩
      intro w1 h1 K hK
      replace hS := Now.below hS h1
      go_simp
      refine hK _ _ (fun _ _ => ⟨rfl,Nat.le_refl _⟩) ?_
      clear hK K h1
      try simp only [Act.put,sqA,sqB,sqC]
      refine wpAnyE_fork [1] (by kernel_rfl) (by simp) ?_
      refine sqM ?_
      · refine ⟨_,rfl,?_⟩
        intro w1 h1 K hK
        replace hS := Now.below hS h1
        go_simp
        go_at_call 142
        refine (hown w1 (Sep.base hS)).mono ?_
        rintro e w3 ⟨A1,k1,A2,k2,A3,k3,rfl,hO⟩
        refine hK _ _ (fun _ hg => ⟨(Sep.base hO).block _ hg,hO.size⟩) ?_
        replace hS := Now.pushAll hS hO
        clear hK K h1 hO
        try simp only [Act.put,sqA,sqB,sqC]
        refine wpAnyE_fork [7] (by kernel_rfl) (by simp) ?_
        refine sqM ?_
        · refine ⟨_,rfl,?_⟩
          intro w1 h1 K hK
          replace hS := Now.below hS h1
          obtain ⟨r0,r1,r2,r3,r4,fr,hS4,hB4⟩ := ref8_set (pre:=[_,_,_]) hS (.int .i64 T.segs) (.int .i64 T.slots) (.slice A1 T.order.length k1) (.slice A2 T.lens.length k2) (.slice A3 T.firsts.length k3)
          have f0 := fr 0
          have f1 := fr 1
          have f2 := fr 2
          have f3 := fr 3
          have f4 := fr 4
          go_simp
          have hbo := Now.blk (pre:=[_,_,_,_,_]) hS
          have hbn := Now.blk (pre:=[_,_,_,_,_]) hS4
          refine hK _ _ (fun _ _ => ⟨hbn.trans hbo.symm,hB4⟩) ?_
          replace hS := hS4
          clear hK K h1 hS4 hbo hbn r0 r1 r2 r3 r4 fr f0 f1 f2 f3 f4
          try simp only [Act.put,sqA,sqB,sqC]
          apply wpAnyE_pure (KeepG.grow w.heap.size) 8
          · kernel_rfl
          · intro _ _ d _ _ h;cases d <;> exact h
          · exact rfl
          · kernel_rfl
          · intro wv
            go_simp
            exact ⟨rfl,sqN _⟩
          try simp only [Act.put,sqA,sqB,sqC]
          replace hS := Now.front (pre:=[_,_,_,_,_]) hS
          replace hS := Now.front (pre:=[_,_,_,_,_]) hS
          replace hS := Now.front (pre:=[_,_,_,_]) hS
          replace hS := Now.front (pre:=[_,_,_,_]) hS
          replace hS := Now.front (pre:=[_,_,_,_]) hS
          replace hS := Now.front (pre:=[_,_,_,_,_]) hS
          refine wpAnyE_end (by kernel_rfl) fun w5 h5 => ?_
          replace hS := Now.below hS h5
          clear h5
          have hcell : ∀ v,Newer w5.drew v → v.cell? ⟨w.heap.size,0,none⟩ = some (.int .i64 T.segs) ∧ v.cell? ⟨w.heap.size,1,none⟩ = some (.int .i64 T.slots) ∧ v.cell? ⟨w.heap.size,2,none⟩ = some (.slice AO T.order.length cO) ∧ v.cell? ⟨w.heap.size,3,none⟩ = some (.slice (some ad) T.lens.length cL) ∧ v.cell? (ad.add m) = some (.int .i64 T.last) := fun v hv => by
            have hb1 := (Now.blk (pre:=[_,_,_,_,_]) hS).below hv.undrew (Now.blk (pre:=[_,_,_,_,_]) hS).lt
            exact ⟨hb1.cell 0,hb1.cell 1,hb1.cell 2,hb1.cell 3,(((Sep.base hS).trans (hv.undrew.mono hS.size)).cell (p := ad.add m) (by rw [block_of_add];exact had)).trans hc⟩
          have hS6 := hS.drew
          go_wp2_with fail
          refine wp_region_ord Newer.grow [(0,true),(1,true),(2,true),(3,true),(4,true),(5,true),(6,true),(7,true)] [] (by kernel_rfl) (by kernel_rfl) rfl (by kernel_rfl) (by intro _ _ d _ _ h;cases d <;> exact h) ?_
          iterate 8
            (apply wpOrd_take
             · exact rfl
             · intro w1 h1
               (obtain ⟨c0,c1,c2,c3,c4⟩ := hcell w1 h1)
               go_simp
               first
                 | with_reducible exact ⟨rfl,sqN _⟩
             simp only [Act.put,sqA,sqB,sqC])
          refine wpOrd_done fun w8 h8 => ?_
          have hS8 := Now.below hS6 h8
          clear hcell hS hS6 h8
          go_wp2_with fail
          obtain ⟨r,kr,cur,e2,_⟩ := row_form (Now.row (pre:=[_,_]) hS8) (by omega)
          cases e2
          have hrow := Now.row (pre:=[_,_]) hS8
          have hml : m < T.lens.length := by omega
          have hrc := row_at hrow hml
          rw [List.getElem?_map,HLM.out] at hrc
          have hyb := Now.blk (pre:=[]) hS8
          have hcell : ∀ w1,Newer w8.drew w1 → w1.cell? ⟨y,0,none⟩ = some (.int .i64 T.segs) ∧ w1.cell? ⟨y,1,none⟩ = some (.int .i64 T.slots) ∧ w1.cell? ⟨y,2,none⟩ = some (.slice A1 T.order.length k1) ∧ w1.cell? ⟨y,3,none⟩ = some (.slice (some ⟨r,0,none⟩) T.lens.length k2) ∧ w1.cell? ⟨y,4,none⟩ = some (.slice A3 T.firsts.length k3) ∧ w1.cell? ⟨r,m,none⟩ = some (.int .i64 T.last) ∧ w1.frozen? ⟨r,m,none⟩ = false := fun w1 hw => by
            have hb1 := hyb.below hw.undrew hyb.lt
            exact ⟨hb1.cell 0,hb1.cell 1,hb1.cell 2,hb1.cell 3,hb1.cell 4,(hw.undrew.cell (lt_of_cell (a := ⟨r,m,none⟩) hrc.1)).trans hrc.1,(hw.undrew.frozen (lt_of_cell (a := ⟨r,m,none⟩) hrc.1)).trans hrc.2⟩
          have hml1 : (m : Int) < (T.lens.length : Int) := by omega
          clear hyb hrow hrc
          refine wp_region_ord Newer.grow [(0,true),(1,true),(2,true),(3,true),(4,true),(5,true),(6,true),(7,true),(8,true),(9,true),(10,false)] [10] (by kernel_rfl) (by kernel_rfl) rfl (by kernel_rfl) (by intro _ _ d _ _ h;cases d <;> exact h) ?_
          iterate 10
            (apply wpOrd_take
             · exact rfl
             · intro w1 h1
               (obtain ⟨c0,c1,c2,c3,c4,c5,c6⟩ := hcell w1 h1)
               go_simp
               first
                 | with_reducible exact ⟨rfl,sqN _⟩
             simp only [Act.put,sqA,sqB,sqC])
          refine wpOrd_last rfl (by decide) ?_
          intro v6 h7 K hK
          obtain ⟨c0,c1,c2,c3,c4,c5,c6⟩ := hcell v6 h7
          go_simp
          refine hK _ _ ?_
          have hS9 := Now.rowSet (pre:=[_,_]) (Now.below hS8.drew h7) hml (.int .i64 (T.last + 1))
          clear hK K hcell hS8 c0 c1 c2 c3 c4 c5 c6
          generalize v6.setCell ⟨r,m,none⟩ (.int .i64 (T.last + 1)) = v7 at hS9 ⊢
          refine wpOrd_done fun v8 h8 => ?_
          have hS10 := Now.below hS9 h8
          have hyb := Now.blk (pre:=[]) hS10
          have c0 : v8.cell? ⟨y,0,none⟩ = some (.int .i64 T.segs) := hyb.cell 0
          have c1 : v8.cell? ⟨y,1,none⟩ = some (.int .i64 T.slots) := hyb.cell 1
          have c2 : v8.cell? ⟨y,2,none⟩ = some (.slice A1 T.order.length k1) := hyb.cell 2
          have c3 : v8.cell? ⟨y,3,none⟩ = some (.slice (some ⟨r,0,none⟩) T.lens.length k2) := hyb.cell 3
          have c4 : v8.cell? ⟨y,4,none⟩ = some (.slice A3 T.firsts.length k3) := hyb.cell 4
          have hr := Now.blk (pre:=[_,_,_,_]) hS10
          have f := fun k => hr.frozen k
          have r0 : v8.cell? ⟨w.heap.size + 1,0,none⟩ = some (.int .i64 0) := hr.cell 0
          have r1 : v8.cell? ⟨w.heap.size + 1,1,none⟩ = some (.int .i64 0) := hr.cell 1
          have r2 : v8.cell? ⟨w.heap.size + 1,2,none⟩ = some (.slice none 0 0) := hr.cell 2
          have r3 : v8.cell? ⟨w.heap.size + 1,3,none⟩ = some (.slice none 0 0) := hr.cell 3
          have r4 : v8.cell? ⟨w.heap.size + 1,4,none⟩ = some (.slice none 0 0) := hr.cell 4
          have hS11 := Lib.hid (Now.set5 (pre:=[_,_,_,_]) hS10 (.int .i64 T.segs) (.int .i64 T.slots) (.slice A1 T.order.length k1) (.slice (some ⟨r,0,none⟩) T.lens.length k2) (.slice A3 T.firsts.length k3))
          clear hS9 hS10 hyb hr
          go_wp2_with fail
          have hlc : T.count.lens.length = T.lens.length := List.length_set ..
          have hfin : Sep w (((((v8.setCell ⟨w.heap.size + 1,0,none⟩ (.int .i64 T.segs)).setCell ⟨w.heap.size + 1,1,none⟩ (.int .i64 T.slots)).setCell ⟨w.heap.size + 1,2,none⟩ (.slice A1 T.order.length k1)).setCell ⟨w.heap.size + 1,3,none⟩ (.slice (some ⟨r,0,none⟩) T.lens.length k2)).setCell ⟨w.heap.size + 1,4,none⟩ (.slice A3 T.firsts.length k3)) (tabParts T.count A1 k1 (some ⟨r,0,none⟩) k2 A3 k3) := by
            have h12 := Now.drop (pre:=[_,_,_]) (Now.drop (pre:=[_,_,_]) (Now.drop (pre:=[]) hS11.out))
            show Sep w _ [_,Thing.row _ 1 (.slice _ T.count.lens.length _) T.count.lens.length (ints T.count.lens),_]
            rw [hlc,show ints T.count.lens = (ints T.lens).set m (.int .i64 (T.last + 1)) by
              show ints (T.lens.set (T.lens.length - 1) _) = _
              rw [HLEN.out,Nat.add_sub_cancel];exact List.map_set ..]
            exact h12
          refine bodyPost_ret (v := .tuple #[.agg #[.int .i64 T.segs, .int .i64 T.slots, .slice A1 T.order.length k1, .slice (some ⟨r,0,none⟩) T.lens.length k2, .slice A3 T.firsts.length k3], .int .i64 0]) ?_ rfl ⟨A1,k1,some ⟨r,0,none⟩,k2,A3,k3,by show _ = Ending.returned (.tuple #[.agg #[_,_,_, .slice _ T.count.lens.length _,_],_]);rw [hlc];rfl,hfin⟩
          exact results_row_tmp rfl _ _ _ _ _ _ _ (by simp) (by simp) (Now.blk (pre:=[_,_,_,_]) hS11.out) Tryz.underlying71 rfl (by kernel_rfl)
end Go.Proofs.YtidacaihmjdmkaaGreat
