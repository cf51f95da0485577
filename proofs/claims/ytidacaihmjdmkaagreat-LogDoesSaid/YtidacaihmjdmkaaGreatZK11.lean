/- What the laws of this seat lean on, part 11. -/
import Derived.Test.YtidacaihmjdmkaaGreatZK9
import Derived.Test.YtidacaihmjdmkaaGreatZK10
import Derived.Test.YtidacaihmjdmkaaGreatZK4
import Derived.Test.YtidacaihmjdmkaaGreatZK5
import Derived.Test.YtidacaihmjdmkaaGreatZK1
import Derived.Lib.BufferWrite
import Derived.Test.YtidacaihmjdmkaaGreatZK2
import Derived.Test.YtidacaihmjdmkaaGreatZK7
import Derived.Defers
set_option linter.unusedSimpArgs false
set_option linter.unusedVariables false
set_option maxRecDepth 100000
namespace Go.Proofs.YtidacaihmjdmkaaGreat
open Go.RowKit
attribute [local go_sem high] run_mx run_mn
abbrev logParts (g gd : Nat) (T : Tab) (AO : Option Addr) (cO : Nat) (AL : Option Addr) (cL : Nat) (AF : Option Addr) (cF : Nat) (lsn epoch gen : Int) (d : Dsk) : List Thing :=
  [Thing.cells g 175 (logCells gd T AO cO AL cL AF cF lsn epoch gen),Thing.row 3 1 (.slice AO T.order.length cO) T.order.length (ints T.order),Thing.row 3 1 (.slice AL T.lens.length cL) T.lens.length (ints T.lens),Thing.row 43 1 (.slice AF T.firsts.length cF) T.firsts.length (u64s T.firsts),dskT gd d]
theorem tabIn_of {S0 : Nat → Prop} {w0 w : World} {pre post : List Thing} {T : Tab} {AO : Option Addr} {cO : Nat} {AL : Option Addr} {cL : Nat} {AF : Option Addr} {cF : Nat}
    (h : Now S0 w0 w (pre ++ Thing.row 3 1 (.slice AO T.order.length cO) T.order.length (ints T.order) :: Thing.row 3 1 (.slice AL T.lens.length cL) T.lens.length (ints T.lens) :: Thing.row 43 1 (.slice AF T.firsts.length cF) T.firsts.length (u64s T.firsts) :: post)) : TabIn w w.heap.size T AO AL AF := by
  refine ⟨Reads.of_own (Now.row h),Reads.of_own (Now.row (pre:=pre ++ [_]) (by simpa using h)),Reads.of_own (Now.row (pre:=pre ++ [_,_]) (by simpa using h))⟩
def Tab.at_ (T : Tab) : Int := secOf T.slots T.open_ (T.len T.open_)
theorem Loc.atZ {P : Program} {f : Nat} {args : Array Value} {O O' : Thing} {r : Value} (hl : Loc P f args O r O') {S0 : Nat → Prop} {w0 w : World} (pre post : List Thing) (h : Now S0 w0 w (pre ++ O :: post)) :
    Calls P f args w fun e w' => e = .returned r ∧ w.heap.size ≤ w'.heap.size ∧ Now S0 w0 w' (pre ++ O' :: post) := by
  obtain ⟨S,h1,_,h2⟩ := h.at_
  exact (hl w S h1).mono fun e w' ⟨he,h3⟩ => ⟨he,h3.size,h2 w' [O'] h3⟩
theorem Tab.open_in (T : Tab) (hT : T.Ok) : 0 ≤ T.open_ ∧ T.open_ < 16 := by
  have hp := hT.pos
  obtain ⟨x,hx⟩ : ∃ x,T.order[T.order.length - 1]? = some x := ⟨_,List.getElem?_eq_getElem (by omega)⟩
  have := hT.inn x (List.mem_of_getElem? hx)
  have := hT.segs
  unfold Tab.open_
  rw [hx]
  show 0 ≤ x ∧ x < 16
  omega
theorem Tab.len_in (T : Tab) (hT : T.Ok) (s : Int) : 0 ≤ T.len s ∧ T.len s ≤ T.slots := by
  have := hT.slots
  unfold Tab.len
  split
  · cases hx : T.lens[(idx T.order s).toNat]? with
    | none => show 0 ≤ (0 : Int) ∧ (0 : Int) ≤ _;omega
    | some y => exact hT.lens y (List.mem_of_getElem? hx)
  · omega
set_option maxHeartbeats 8000000 in
theorem write_any (g gd : Nat) (T : Tab) (hT : T.Ok) (AO : Option Addr) (cO : Nat) (AL : Option Addr) (cL : Nat) (AF : Option Addr) (cF : Nat) (lsn epoch gen : Int) (d : Dsk) (hp : d.pend.length ≤ 1000000000) (rc : Rec) (hF : ({ rc with lsn := lsn,epoch := epoch } : Rec).Fits) (hR : ({ rc with lsn := lsn,epoch := epoch } : Rec).right = true)
    {S0 : Nat → Prop} {w0 w : World} {L : List Thing} (hS : Now S0 w0 w (logParts g gd T AO cO AL cL AF cF lsn epoch gen d ++ L)) :
    Calls Tryz.prog 100 #[.pointer (some ⟨g,0,none⟩),rc.value] w fun e w' =>
      (d.writeE T.at_ ({ rc with lsn := lsn,epoch := epoch } : Rec).sector = 0 → e = .returned (.agg #[.int .i64 T.open_, .int .i64 (T.len T.open_)]) ∧ Now S0 w0 w' (logParts g gd T AO cO AL cL AF cF (IntKind.u64.wrap (lsn + 1)) epoch gen (d.writeS T.at_ ({ rc with lsn := lsn,epoch := epoch } : Rec).sector) ++ L)) ∧
      (∀ x,x ≠ 0 → d.writeE T.at_ ({ rc with lsn := lsn,epoch := epoch } : Rec).sector = x → e = .panicked [{ v := stopV x,recovered := false }] ∧ Now S0 w0 w' (logParts g gd T AO cO AL cL AF cF lsn epoch gen d ++ L)) := by
  obtain ⟨SC,hSC⟩ : ∃ SC,({ rc with lsn := lsn,epoch := epoch } : Rec).sector = SC := ⟨_,rfl⟩
  have hE := fun v => Encode_yes { rc with lsn := lsn,epoch := epoch } hF hR v
  rw [hSC] at hE ⊢
  obtain ⟨r0,r1,r2,r3,r4,r5,r6⟩ := rc
  have hopen : 0 ≤ T.open_ ∧ T.open_ < 16 := T.open_in hT
  have hlen : 0 ≤ T.len T.open_ ∧ T.len T.open_ ≤ T.slots := T.len_in hT _
  have hgw : g < w.heap.size := (Now.blk (pre:=[]) hS).lt
  have hS1 := Now.pushCells (Now.pushCells hS 46 #[.int .u64 r0, .int .u32 r1, .int .i64 r2, .int .u64 r3, .int .u64 r4, .string r5, .string r6]) 90 #[.int .i64 0, .int .i64 0]
  simp only [World.size_alloc] at hS1
  unfold Rec.value at hE ⊢
  clear hSC hF hR hS
  go_enter Tryz.func100,Tryz.ntmps100
  go_wp2_with fail
  generalize (w.alloc (.cells #[.int .u64 r0, .int .u32 r1, .int .i64 r2, .int .u64 r3, .int .u64 r4, .string r5, .string r6] 46)).alloc (.cells #[.int .i64 0, .int .i64 0] 90) = wb at hS1 ⊢
  have hlog := Now.blk (pre:=[_,_]) hS1
  have htab := tabIn_of (pre:=[_,_,_]) hS1
  have hop := fun v (hv : Newer wb.drew v) => open_any g gd T hT AO cO AL cL AF cF lsn epoch gen v (hlog.below hv.undrew hlog.lt) wb.heap.size (htab.below hv.undrew).o hv.size
  have hle := fun v (hv : Newer wb.drew v) => Len_tab T hT AO cO AL cL AF cF T.open_ v wb.heap.size hv.size (htab.below hv.undrew)
  have hcell : ∀ v,Newer wb.drew v → v.cell? ⟨g,1,none⟩ = some (.int .i64 T.segs) ∧ v.cell? ⟨g,2,none⟩ = some (.int .i64 T.slots) ∧ v.cell? ⟨g,3,none⟩ = some (.slice AO T.order.length cO) ∧ v.cell? ⟨g,4,none⟩ = some (.slice AL T.lens.length cL) ∧ v.cell? ⟨g,5,none⟩ = some (.slice AF T.firsts.length cF) := fun v hv => by
    have hb1 := hlog.below hv.undrew hlog.lt
    exact ⟨hb1.cell 1,hb1.cell 2,hb1.cell 3,hb1.cell 4,hb1.cell 5⟩
  have hS2 := hS1.drew
  clear hS1 hlog htab
  refine wp_region_ordN Newer.grow [(0,true),(1,true),(2,true),(3,true),(4,true),(5,true),(6,true),(7,true),(8,true),(9,true),(10,false),(11,false)] [11] (by kernel_rfl) (by kernel_rfl) rfl (by kernel_rfl) ?_
  iterate 10
    (apply wpOrd_take
     · exact rfl
     · intro w1 h1
       (obtain ⟨c1,c2,c3,c4,c5⟩ := hcell w1 h1)
       go_simp
       first
         | with_reducible exact ⟨rfl,sqN _⟩
         | with_reducible exact hop _ h1 | with_reducible exact hle _ h1
     simp only [Act.put,sqA,sqB,sqC])
  refine wpOrd_do rfl ?_
  intro w1 h1 K hK
  have hS3 := Now.pushCells (Now.below hS2 h1) 90 #[.int .i64 0, .int .i64 0]
  go_simp
  refine hK _ _ ((Newer.refl w1).alloc _) ?_
  clear hK K hop hle hcell hS2 h1
  generalize w1.alloc (.cells #[.int .i64 0, .int .i64 0] 90) = w2 at hS3 ⊢
  generalize w1.heap.size = x at hS3 ⊢
  clear w1
  try simp only [Act.put,sqA,sqB,sqC]
  refine wpOrd_last rfl (by decide) ?_
  intro w3 h3 K hK
  have hS4 := Now.below hS3 h3
  have hxb := Now.blk (pre:=[]) hS4
  have c0 : w3.cell? ⟨x,0,none⟩ = some (.int .i64 0) := hxb.cell 0
  have c1 : w3.cell? ⟨x,1,none⟩ = some (.int .i64 0) := hxb.cell 1
  have f0 := fun k => hxb.frozen k
  go_simp
  refine hK _ _ ?_
  have hS5 := Now.set_ (pre:=[]) (Now.set_ (pre:=[]) hS4 0 (.int .i64 T.open_)) 1 (.int .i64 (T.len T.open_))
  clear hK K hxb c0 c1 f0 h3 hS4 hS3
  generalize (w3.setCell ⟨x,0,none⟩ (.int .i64 T.open_)).setCell ⟨x,1,none⟩ (.int .i64 (T.len T.open_)) = w4 at hS5 ⊢
  clear w3
  refine wpOrd_done fun w5 h5 => ?_
  refine post_intro ?_
  replace hS5 := Now.below hS5 h5
  clear h5
  go_wp2_with fail
  have hlog := Now.blk (pre:=[_,_,_]) hS5
  have HB : g < w5.drew.heap.size := hlog.lt
  have hcell : ∀ v,KeepG g w5.drew v → v.cell? ⟨g,6,none⟩ = some (.int .u64 lsn) ∧ v.cell? ⟨g,7,none⟩ = some (.int .u32 epoch) := fun v hv => by
    have hb1 := KeepG.blk (w := w5.drew) hv hlog
    exact ⟨hb1.cell 6,hb1.cell 7⟩
  have hS6 := hS5.drew
  clear hS5 hlog
  refine wp_region_takesN (KeepG.grow g) [] [(0,false),(1,false),(2,false),(3,false),(4,false),(5,false),(6,false),(7,false)] 4 (by kernel_rfl) (by kernel_rfl) rfl (by kernel_rfl) ?_
  iterate 8
    (apply wpTakes_take
     · exact rfl
     · intro w1v hR1
       (obtain ⟨c6,c7⟩ := hcell w1v hR1)
       go_simp
       first
         | with_reducible exact ⟨rfl,sqN _⟩
     simp only [Act.put,sqA,sqB,sqC])
  refine wpTakes_done ?_
  clear hcell HB
  generalize w5.drew = wc at hS6 ⊢
  apply wpAnyE_pure (KeepG.grow g) 8
  · kernel_rfl
  · intro _ _ d _ _ h;cases d <;> exact h
  · exact rfl
  · kernel_rfl
  · intro w1
    go_simp
    exact ⟨rfl,sqN _⟩
  try simp only [Act.put,sqA,sqB,sqC]
  refine wpAnyE_fork [9] (by kernel_rfl) (by simp) ?_
  refine sqM ?_
  refine ⟨_,rfl,?_⟩
  intro w1 h1 K hK
  replace hS6 := Now.below hS6 h1
  have hxb := Now.blk (pre:=[_,_]) hS6
  have ck : w1.cell? ⟨w.heap.size,0,none⟩ = some (.int .u64 r0) := hxb.cell 0
  have fk := hxb.frozen 0
  go_simp
  refine hK _ _ (fun _ _ => ⟨Below.heap_setCell w1 ⟨w.heap.size,0,none⟩ _ g (by show g ≠ w.heap.size;omega),by simp⟩) ?_
  replace hS6 := Now.set_ (pre:=[_,_]) hS6 0 (.int .u64 lsn)
  clear hK K hxb ck fk h1
  generalize w1.setCell ⟨w.heap.size,0,none⟩ (.int .u64 lsn) = v9 at hS6 ⊢
  clear w1
  apply wpAnyE_pure (KeepG.grow g) 10
  · kernel_rfl
  · intro _ _ d _ _ h;cases d <;> exact h
  · exact rfl
  · kernel_rfl
  · intro w1
    go_simp
    exact ⟨rfl,sqN _⟩
  try simp only [Act.put,sqA,sqB,sqC]
  refine wpAnyE_fork [11] (by kernel_rfl) (by simp) ?_
  refine sqM ?_
  refine ⟨_,rfl,?_⟩
  intro w1 h1 K hK
  replace hS6 := Now.below hS6 h1
  have hxb := Now.blk (pre:=[_,_]) hS6
  have ck : w1.cell? ⟨w.heap.size,1,none⟩ = some (.int .u32 r1) := hxb.cell 1
  have fk := hxb.frozen 1
  go_simp
  refine hK _ _ (fun _ _ => ⟨Below.heap_setCell w1 ⟨w.heap.size,1,none⟩ _ g (by show g ≠ w.heap.size;omega),by simp⟩) ?_
  replace hS6 := Now.set_ (pre:=[_,_]) hS6 1 (.int .u32 epoch)
  clear hK K hxb ck fk h1
  generalize w1.setCell ⟨w.heap.size,1,none⟩ (.int .u32 epoch) = v11 at hS6 ⊢
  clear w1
  refine wpAnyE_end (by kernel_rfl) fun w6 h6 => ?_
  refine post_intro ?_
  replace hS6 := Now.below hS6 h6
  clear h6
  have hrb := Now.blk (pre:=[_,_]) hS6
  have q0 : w6.cell? ⟨w.heap.size,0,none⟩ = some (.int .u64 lsn) := hrb.cell 0
  have q1 : w6.cell? ⟨w.heap.size,1,none⟩ = some (.int .u32 epoch) := hrb.cell 1
  have q2 : w6.cell? ⟨w.heap.size,2,none⟩ = some (.int .i64 r2) := hrb.cell 2
  have q3 : w6.cell? ⟨w.heap.size,3,none⟩ = some (.int .u64 r3) := hrb.cell 3
  have q4 : w6.cell? ⟨w.heap.size,4,none⟩ = some (.int .u64 r4) := hrb.cell 4
  have q5 : w6.cell? ⟨w.heap.size,5,none⟩ = some (.string r5) := hrb.cell 5
  have q6 : w6.cell? ⟨w.heap.size,6,none⟩ = some (.string r6) := hrb.cell 6
  clear hrb
  go_wp2_with (first
    | (go_at_call 116;(with_reducible refine (hE _).mono ?_);rintro e w7 ⟨rfl,hB⟩;have hS7 := Now.below hS6 hB;clear hE hB hS6 q0 q1 q2 q3 q4 q5 q6)
    | (go_at_call 102;(with_reducible refine (lmust_yes _).mono ?_);rintro e w8 ⟨rfl,rfl⟩))
  have hlog := Now.blk (pre:=[_,_,_]) hS7
  have hxb := Now.blk (pre:=[]) hS7
  have HB : g < w7.drew.heap.size := hlog.lt
  have hcell : ∀ v,(KeepG g w7.drew v ∧ KeepG x w7.drew v) → v.cell? ⟨g,0,none⟩ = some (.pointer (some ⟨gd,0,none⟩)) ∧ v.cell? ⟨g,2,none⟩ = some (.int .i64 T.slots) ∧ v.cell? ⟨x,0,none⟩ = some (.int .i64 T.open_) ∧ v.cell? ⟨x,1,none⟩ = some (.int .i64 (T.len T.open_)) := fun v hv => by
    have hb1 := KeepG.blk (w := w7.drew) hv.1 hlog
    have hb2 := KeepG.blk (w := w7.drew) hv.2 hxb
    exact ⟨hb1.cell 0,hb1.cell 2,hb2.cell 0,hb2.cell 1⟩
  have hsec := fun v => Sector_ok T.slots T.open_ (T.len T.open_) hT.slots hopen hlen v
  have hS8 := hS7.drew
  clear hS7 hlog hxb
  refine wp_region_takes ((KeepG.grow g).and (KeepG.grow x)) [] [(0,false),(1,false),(2,false),(3,false),(4,false),(5,false),(6,false),(7,false),(8,false),(9,false),(10,false),(11,false)] 2 (by kernel_rfl) (by kernel_rfl) rfl (by kernel_rfl) (by intro _ _ d _ _ h;cases d <;> exact h) ?_
  iterate 12
    (apply wpTakes_take
     · exact rfl
     · intro w1v hR1
       (obtain ⟨d0,d1,d2,d3⟩ := hcell w1v hR1)
       go_simp
       first
         | with_reducible exact ⟨rfl,sqN _⟩
         | with_reducible exact hsec _
     simp only [Act.put,sqA,sqB,sqC])
  refine wpTakes_done ?_
  clear hcell HB
  generalize w7.drew = wc at hS8 ⊢
  refine wpAnyE_fork [12] (by kernel_rfl) (by simp) ?_
  refine sqM ?_
  refine ⟨_,rfl,?_⟩
  intro w1 h1 K hK
  replace hS8 := Now.below hS8 h1
  have hwr := Loc.atZ (LWrite gd d (secOf T.slots T.open_ (T.len T.open_)) SC hp) [_,_,_,_,_,_,_] L hS8
  go_simp
  go_at_call 23
  refine hwr.mono ?_
  rintro e w8 ⟨rfl,hz,hS9⟩
  refine hK _ _ (fun _ => ⟨fun _ => ⟨(Now.blk (pre:=[_,_,_]) hS9).trans (Now.blk (pre:=[_,_,_]) hS8).symm,hz⟩,fun _ => ⟨(Now.blk (pre:=[]) hS9).trans (Now.blk (pre:=[]) hS8).symm,hz⟩⟩) ?_
  clear hK K hwr hS8 hz h1
  clear w1
  try simp only [Act.put,sqA,sqB,sqC]
  obtain ⟨we,hwe⟩ : ∃ we,d.writeE (secOf T.slots T.open_ (T.len T.open_)) SC = we := ⟨_,rfl⟩
  rw [hwe]
  refine wpAnyE_fork [13] (by kernel_rfl) (by simp) ?_
  refine sqM ?_
  refine ⟨_,rfl,?_⟩
  intro w1 h1 K hK
  replace hS9 := Now.below hS9 h1
  by_cases h0 : we = 0
  · subst h0
    have HWE := Lib.hid hwe
    clear hwe
    go_simp
    go_at_call 102
    (with_reducible refine (lmust_yes _).mono ?_)
    rintro e w9 ⟨rfl,rfl⟩
    refine hK _ _ (fun _ => ⟨fun _ => ⟨rfl,Nat.le_refl _⟩,fun _ => ⟨rfl,Nat.le_refl _⟩⟩) ?_
    clear hK K h1
    refine wpAnyE_end (by kernel_rfl) fun w10 h10 => ?_
    replace hS9 := Now.below hS9 h10
    clear h10
    have hlog := Now.blk (pre:=[_,_,_]) hS9
    have c6 : w10.cell? ⟨g,6,none⟩ = some (.int .u64 lsn) := hlog.cell 6
    have f6 := hlog.frozen 6
    have hxb := Now.blk (pre:=[]) hS9
    have d0 : w10.cell? ⟨x,0,none⟩ = some (.int .i64 T.open_) := hxb.cell 0
    have d1 : w10.cell? ⟨x,1,none⟩ = some (.int .i64 (T.len T.open_)) := hxb.cell 1
    have hob := Now.blk (pre:=[_]) hS9
    have o0 : w10.cell? ⟨w.heap.size + 1,0,none⟩ = some (.int .i64 0) := hob.cell 0
    have o1 : w10.cell? ⟨w.heap.size + 1,1,none⟩ = some (.int .i64 0) := hob.cell 1
    have fo := fun k => hob.frozen k
    have hS10 := Lib.hid (Now.set_ (pre:=[_]) (Now.set_ (pre:=[_]) (Now.set_ (pre:=[_,_,_]) hS9 6 (.int .u64 (IntKind.u64.wrap (lsn + 1)))) 0 (.int .i64 T.open_)) 1 (.int .i64 (T.len T.open_)))
    have hux : (lsn + 1) % 18446744073709551616 = IntKind.u64.wrap (lsn + 1) := (IntKind.wrap_u64 _).symm
    clear hlog hxb hob hS9
    go_wp2_with fail
    refine bodyPost_ret (v := .agg #[.int .i64 T.open_, .int .i64 (T.len T.open_)]) ?_ rfl ⟨fun _ => ⟨rfl,Now.drop (pre:=[]) (Now.drop (pre:=[]) (Now.drop (pre:=[]) hS10.out))⟩,fun y hy he => absurd (he.symm.trans HWE.out) hy⟩
    exact results_cell_row rfl _ _ _ _ _ (0,0) _ (by simp) (Now.blk (pre:=[_]) hS10.out) Tryz.underlying90 rfl (by kernel_rfl)
  · go_simp
    go_at_call 102
    (with_reducible refine (lmust_no _ h0 _).mono ?_)
    rintro e w9 ⟨rfl,rfl⟩
    have hws : d.writeS (secOf T.slots T.open_ (T.len T.open_)) SC = d := by unfold Dsk.writeS;rw [hwe,if_neg h0]
    rw [hws] at hS9
    refine ⟨rfl,fun h => absurd (hwe.symm.trans h) h0,fun y _ hy => ⟨?_,Now.drop (pre:=[]) (Now.drop (pre:=[]) (Now.drop (pre:=[]) hS9))⟩⟩
    rw [← hwe]
    exact congrArg (fun z => Ending.panicked [{ v := stopV z,recovered := false }]) hy
end Go.Proofs.YtidacaihmjdmkaaGreat
namespace Go.Proofs.YtidacaihmjdmkaaGreat
open Go.RowKit
structure Chk where
  gen : Int
  epoch : Int
  lsn : Int
  ver : Int
  order : List Int
  lens : List Int
abbrev chkCells (C : Chk) (AO : Option Addr) (cO : Nat) (AL : Option Addr) (cL : Nat) : Array Value :=
  #[.int .u64 C.gen, .int .u32 C.epoch, .int .u64 C.lsn, .int .u64 C.ver, .slice AO C.order.length cO, .slice AL C.lens.length cL]
structure ChkIn (w : World) (B : Nat) (C : Chk) (AO AL : Option Addr) : Prop where
  o : Reads w B 1 AO C.order.length (ints C.order)
  l : Reads w B 1 AL C.lens.length (ints C.lens)
section
variable {w w' : World} {B B' : Nat} {C : Chk} {AO AL : Option Addr}
theorem ChkIn.below (h : ChkIn w B C AO AL) (hb : Below B w w') : ChkIn w' B C AO AL := ⟨h.o.below hb,h.l.below hb⟩
theorem ChkIn.more (h : ChkIn w B C AO AL) (hB : B ≤ B') : ChkIn w B' C AO AL := ⟨h.o.more hB,h.l.more hB⟩
theorem ChkIn.alloc (h : ChkIn w B C AO AL) (hB : B ≤ w.heap.size) (o : Obj) : ChkIn (w.alloc o) B C AO AL := ⟨h.o.alloc hB o,h.l.alloc hB o⟩
end
def Chk.at_ (C : Chk) (k : Nat) : Prop := (0 ≤ C.order[k]?.getD 0 ∧ C.order[k]?.getD 0 < 16) ∧ ¬ (C.order[k]?.getD 0 ∈ C.order.take k) ∧ 0 ≤ C.lens[k]?.getD 0 ∧ C.lens[k]?.getD 0 ≤ 30
instance (C : Chk) (k : Nat) : Decidable (C.at_ k) := by unfold Chk.at_;exact inferInstance
def Chk.upTo (C : Chk) (k : Nat) : Prop := ∀ j,j < k → C.at_ j
instance (C : Chk) (k : Nat) : Decidable (C.upTo k) := by unfold Chk.upTo;exact inferInstance
structure Chk.Right (C : Chk) : Prop where
  gen : C.gen ≠ 0
  lsn : C.lsn ≠ 0
  pos : C.order.length ≠ 0
  many : C.order.length ≤ 16
  len : C.lens.length = C.order.length
  all : C.upTo C.order.length
instance (C : Chk) : Decidable C.Right := decidable_of_iff (C.gen ≠ 0 ∧ C.lsn ≠ 0 ∧ C.order.length ≠ 0 ∧ C.order.length ≤ 16 ∧ C.lens.length = C.order.length ∧ C.upTo C.order.length)
  ⟨fun ⟨a,b,c,d,e,f⟩ => ⟨a,b,c,d,e,f⟩,fun ⟨a,b,c,d,e,f⟩ => ⟨a,b,c,d,e,f⟩⟩
theorem Chk.upTo_succ {C : Chk} {k : Nat} (h : C.upTo k) (hk : C.at_ k) : C.upTo (k + 1) := fun j hj => by
  by_cases e : j = k
  · subst e;exact hk
  · exact h j (by omega)
def seenCells (C : Chk) (k : Nat) : Array Value := ((List.range 16).map fun j : Nat => Value.bool (decide ((j : Int) ∈ C.order.take k))).toArray
theorem seenCells_size (C : Chk) (k : Nat) : (seenCells C k).size = 16 := by simp [seenCells]
theorem seenCells_at (C : Chk) (k m : Nat) (hm : m < 16) : (seenCells C k)[m]? = some (.bool (decide ((m : Int) ∈ C.order.take k))) := by
  simp [seenCells,hm]
theorem seenCells_set (C : Chk) (k m : Nat) (hm : m < 16) (hk : C.order[k]? = some (m : Int)) : (seenCells C k).setIfInBounds m (.bool true) = seenCells C (k + 1) := by
  apply Array.ext_getElem?
  intro j
  rw [Array.getElem?_setIfInBounds,seenCells_size]
  have ht : C.order.take (k + 1) = C.order.take k ++ [(m : Int)] := by rw [List.take_add_one,hk];rfl
  by_cases hj : m = j
  · subst hj
    rw [if_pos rfl,if_pos hm,seenCells_at _ _ _ hm,ht]
    simp
  · rw [if_neg hj]
    by_cases hj16 : j < 16
    · rw [seenCells_at _ _ _ hj16,seenCells_at _ _ _ hj16,ht]
      have : ¬ (j : Int) = (m : Int) := by omega
      simp [this]
    · rw [Array.getElem?_eq_none (by rw [seenCells_size];omega),Array.getElem?_eq_none (by rw [seenCells_size];omega)]
theorem seenCells_zero (C : Chk) : seenCells C 0 = Array.replicate 16 (.bool false) := by
  unfold seenCells
  simp only [List.take_zero,List.not_mem_nil,decide_false]
  rfl
set_option maxHeartbeats 4000000 in
theorem CkptRight_aux (C : Chk) (n m : Nat) (hno : C.order.length = n) (hml : C.lens.length = m) (AO : Option Addr) (cO : Nat) (AL : Option Addr) (cL : Nat) (w : World) (h : ChkIn w w.heap.size C AO AL) (hn1 : n ≤ 1000000000) (hn2 : m ≤ 1000000000) :
    Calls Tryz.prog 158 #[.agg #[.int .u64 C.gen, .int .u32 C.epoch, .int .u64 C.lsn, .int .u64 C.ver, .slice AO n cO, .slice AL m cL]] w fun e w' => e = .returned (.bool (decide C.Right)) ∧ Newer w w' := by
  have h1 := Lib.hid (h.alloc (Nat.le_refl _) (.cells #[.int .u64 C.gen, .int .u32 C.epoch, .int .u64 C.lsn, .int .u64 C.ver, .slice AO n cO, .slice AL m cL] 61))
  have H0 := Lib.hid h
  have HNO := Lib.hid hno
  have HML := Lib.hid hml
  clear h hno hml
  by_cases g1 : C.gen = 0
  · have hR := Lib.hid (show decide C.Right = false from decide_eq_false fun h => h.gen g1)
    go_enter Tryz.func158,Tryz.ntmps158
    go_wp2
    go_ret
    exact ⟨by rw [hR.out];rfl,(Newer.refl w).alloc _⟩
  by_cases g2 : C.lsn = 0
  · have hR := Lib.hid (show decide C.Right = false from decide_eq_false fun h => h.lsn g2)
    go_enter Tryz.func158,Tryz.ntmps158
    go_wp2
    go_ret
    exact ⟨by rw [hR.out];rfl,(Newer.refl w).alloc _⟩
  by_cases g3 : n = 0
  · have hR := Lib.hid (show decide C.Right = false from decide_eq_false fun h => h.pos (HNO.out.trans g3))
    go_enter Tryz.func158,Tryz.ntmps158
    go_wp2
    go_ret
    exact ⟨by rw [hR.out];rfl,(Newer.refl w).alloc _⟩
  have e1 : (C.gen == 0) = false := beq_eq_false_iff_ne.2 g1
  have e2 : (C.lsn == 0) = false := beq_eq_false_iff_ne.2 g2
  have e3 : ((n : Int) == 0) = false := beq_eq_false_iff_ne.2 (by omega)
  by_cases g4 : 16 < n
  · have hR := Lib.hid (show decide C.Right = false from decide_eq_false fun h => by have := h.many;have := HNO.out;omega)
    have e4 : 16 < (n : Int) := by omega
    clear g4
    go_enter Tryz.func158,Tryz.ntmps158
    go_wp2
    go_ret
    exact ⟨by rw [hR.out];rfl,(Newer.refl w).alloc _⟩
  have e4 : ¬ 16 < (n : Int) := by omega
  by_cases g5 : m = n
  case neg =>
    have hR := Lib.hid (show decide C.Right = false from decide_eq_false fun h => g5 (by rw [← HML.out, ← HNO.out];exact h.len))
    have e5 : ((m : Int) == (n : Int)) = false := beq_eq_false_iff_ne.2 (by omega)
    have e5' : ((m : Int) != (n : Int)) = true := by rw [bne,e5];rfl
    have e6 : (m == n) = false := beq_eq_false_iff_ne.2 g5
    have e7 : decide (m = n) = false := decide_eq_false g5
    clear g5
    go_enter Tryz.func158,Tryz.ntmps158
    go_wp2
    go_ret
    exact ⟨by rw [hR.out];rfl,(Newer.refl w).alloc _⟩
  subst g5
  have g4' : m ≤ 16 := by omega
  have G1 := Lib.hid g1
  have G2 := Lib.hid g2
  have G3 := Lib.hid g3
  have hB0 := Blk.new (w.alloc (.cells #[.int .u64 C.gen, .int .u32 C.epoch, .int .u64 C.lsn, .int .u64 C.ver, .slice AO m cO, .slice AL m cL] 61)) 267 (Array.replicate 16 (.bool false))
  have hC0 := (Blk.new w 61 #[.int .u64 C.gen, .int .u32 C.epoch, .int .u64 C.lsn, .int .u64 C.ver, .slice AO m cO, .slice AL m cL]).alloc (.cells (Array.replicate 16 (.bool false)) 267)
  have hW0 := ((Newer.refl w).alloc (.cells #[.int .u64 C.gen, .int .u32 C.epoch, .int .u64 C.lsn, .int .u64 C.ver, .slice AO m cO, .slice AL m cL] 61)).alloc (.cells (Array.replicate 16 (.bool false)) 267)
  simp only [World.size_alloc] at hB0
  go_enter Tryz.func158,Tryz.ntmps158
  go_wp2
  have HB0 := Lib.hid hB0
  clear hB0 g1 g2 g3 g4
  go_loopw [4,5,38] (fun _ _ i wr => ∃ k : Nat,k ≤ m ∧ i = .int .i64 k ∧ C.upTo k ∧ Blk wr (w.heap.size + 1) 267 (seenCells C k) ∧ Blk wr w.heap.size 61 #[.int .u64 C.gen, .int .u32 C.epoch, .int .u64 C.lsn, .int .u64 C.ver, .slice AO m cO, .slice AL m cL] ∧ Newer w wr) (fun _ _ i _ => m - (intOf i).toNat)
  case atStart => exact ⟨0,by omega,rfl,fun j hj => absurd hj (by omega),by rw [seenCells_zero];exact HB0.out,hC0,hW0⟩
  case round =>
    clear hC0 hW0
    obtain ⟨k,hk,rfl,hup,hb,hc,hN⟩ := hrel
    by_cases hlt : k < m
    · obtain ⟨x,hkx⟩ : ∃ x,C.order[k]? = some x := ⟨_,List.getElem?_eq_getElem (by rw [HNO.out];exact hlt)⟩
      obtain ⟨y,hkn⟩ : ∃ y,C.lens[k]? = some y := ⟨_,List.getElem?_eq_getElem (by rw [HML.out];exact hlt)⟩
      have hat : C.at_ k ↔ (0 ≤ x ∧ x < 16) ∧ ¬ x ∈ C.order.take k ∧ 0 ≤ y ∧ y ≤ 30 := by unfold Chk.at_;rw [hkx,hkn];exact Iff.rfl
      have hin := H0.out.below hN
      have hio := hin.o
      have hil := hin.l
      rw [HNO.out] at hio
      rw [HML.out] at hil
      obtain ⟨ad,rfl,_,ca⟩ := read_cell (u := .int .i64 x) hio hlt (by rw [List.getElem?_map,hkx];rfl)
      obtain ⟨bd,rfl,_,cb⟩ := read_cell (u := .int .i64 y) hil hlt (by rw [List.getElem?_map,hkn];rfl)
      have cl : _ = some (Value.slice (some bd) m cL) := hc.cell 5
      have HX := Lib.hid hkx
      have HAT := Lib.hid hat
      have HUP := Lib.hid hup
      have hkm : (k : Int) < (m : Int) := by omega
      have hno : ∀ {a : Prop},(¬ ((0 ≤ x ∧ x < 16) ∧ ¬ x ∈ C.order.take k ∧ 0 ≤ y ∧ y ≤ 30)) → Hid (decide C.Right = false) := fun hb => Lib.hid (decide_eq_false fun h => hb (HAT.out.1 (h.all k (by rw [HNO.out];exact hlt))))
      clear hkx hkn hat hup hin hio hil
      by_cases b1 : x < 0
      · have hR := hno (a := True) (fun h => by omega)
        clear hno
        go_wp2
        go_ret
        exact ⟨by rw [hR.out];rfl,hN⟩
      by_cases b2 : 16 ≤ x
      · have hR := hno (a := True) (fun h => by omega)
        clear hno
        go_wp2
        go_ret
        exact ⟨by rw [hR.out];rfl,hN⟩
      obtain ⟨q,rfl⟩ : ∃ q : Nat,x = q := ⟨x.toNat,by omega⟩
      have hq : q < 16 := by omega
      have cq := (hb.cell q).trans (seenCells_at C k q hq)
      by_cases b3 : (q : Int) ∈ C.order.take k
      · have hR := hno (a := True) (fun h => h.2.1 b3)
        rw [decide_eq_true b3] at cq
        clear hno b3
        go_wp2
        go_ret
        exact ⟨by rw [hR.out];rfl,hN⟩
      rw [decide_eq_false b3] at cq
      by_cases b4 : y < 0
      · have hR := hno (a := True) (fun h => by omega)
        clear hno b3
        go_wp2
        go_ret
        exact ⟨by rw [hR.out];rfl,hN⟩
      by_cases b5 : 30 < y
      · have hR := hno (a := True) (fun h => by omega)
        clear hno b3
        go_wp2
        go_ret
        exact ⟨by rw [hR.out];rfl,hN⟩
      have hup2 := Lib.hid (Chk.upTo_succ HUP.out (HAT.out.2 ⟨⟨by omega,by omega⟩,b3,by omega,by omega⟩))
      have fq := hb.frozen q
      clear hno b3
      go_wp2
      go_roundw
      case rel => exact ⟨k + 1,by omega,by go_num,hup2.out,by rw [← seenCells_set C k q hq HX.out];exact hb.set_ _ _,hc.far (by show w.heap.size ≠ w.heap.size + 1;omega) _,hN.setCell (by show w.heap.size ≤ w.heap.size + 1;omega) _⟩
      case measure => simp [intOf];omega
    · obtain rfl : k = m := by omega
      have hR := Lib.hid (show decide C.Right = true from decide_eq_true ⟨G1.out,G2.out,by rw [HNO.out];exact G3.out,by rw [HNO.out];exact g4',by rw [HML.out,HNO.out],by rw [HNO.out];exact hup⟩)
      clear hup
      go_wp2
      go_ret
      exact ⟨by rw [hR.out];rfl,hN⟩
theorem CkptRight_any (C : Chk) (AO : Option Addr) (cO : Nat) (AL : Option Addr) (cL : Nat) (w : World) (h : ChkIn w w.heap.size C AO AL) (hn1 : C.order.length ≤ 1000000000) (hn2 : C.lens.length ≤ 1000000000) :
    Calls Tryz.prog 158 #[.agg (chkCells C AO cO AL cL)] w fun e w' => e = .returned (.bool (decide C.Right)) ∧ Newer w w' := CkptRight_aux C _ _ rfl rfl AO cO AL cL w h hn1 hn2
end Go.Proofs.YtidacaihmjdmkaaGreat
namespace Go.Proofs.YtidacaihmjdmkaaGreat
open Go.RowKit Go.Lib
def laidAt (b : List UInt8) (o : Nat) (s : List UInt8) : List UInt8 := b.take o ++ s ++ b.drop (o + s.length)
theorem laidAt_length (b : List UInt8) (o : Nat) (s : List UInt8) (h : o + s.length ≤ b.length) : (laidAt b o s).length = b.length := by
  simp [laidAt];omega
abbrev secCells (b : List UInt8) : Array Value := (byteCells b).toArray
theorem secCells_size (b : List UInt8) : (secCells b).size = b.length := by simp [byteCells]
theorem put_run (w : World) (g : Nat) (b : List UInt8) (o : Nat) (s : ByteArray) (c : Nat) (hb : Blk w g 246 (secCells b)) (hl : b.length = 128) (ho : o + s.size ≤ 128) :
    (Builtin.copy_ #[100,9] 3 #[.slice (some ⟨g,o,none⟩) (128 - o) c, .string s]).run Tryz.prog w = .ok (goInt s.size) (w.setRow g (secCells (laidAt b o s.data.toList))) := by
  have h := run_copy_row_string (P := Tryz.prog) w 100 9 3 5 g o (128 - o) c s (secCells b) 246 Tryz.underlying100 (by kernel_rfl) hb (by omega) (by rw [secCells_size,hl];exact ho)
  rw [h]
  have e : s.size = s.data.toList.length := size_eq s
  have : ((secCells b).toList.take o ++ byteCells s.data.toList ++ (secCells b).toList.drop (o + s.size)).toArray = secCells (laidAt b o s.data.toList) := by
    unfold secCells laidAt
    rw [e]
    simp [byteCells,List.map_take,List.map_drop]
  rw [this]
theorem put_any (g : Nat) (b : List UInt8) (o : Nat) (s : ByteArray) (w : World) (hb : Blk w g 246 (secCells b)) (hl : b.length = 128) (ho : o + s.size ≤ 128) (ho1 : o < 128) :
    Calls Tryz.prog 159 #[.pointer (some ⟨g,0,none⟩), .int .i64 o, .string s] w fun e w' => e = .returned (.tuple #[]) ∧ w.setRow g (secCells (laidAt b o s.data.toList)) = w' := by
  have hr := fun c => put_run w g b o s c hb hl ho
  have ho2 : (o : Int) ≤ 128 := by omega
  have ho3 : o ≤ 128 := by omega
  have ho4 : ¬ (128 - o = 0) := by omega
  have ho5 : (128 - o == 0) = false := by simpa using ho4
  have ho6 : ¬ 128 ≤ o := by omega
  clear hl
  go_enter Tryz.func159,Tryz.ntmps159
  go_wp2_with (refine wpList_value _ rfl (v := goInt s.size) (w' := w.setRow g (secCells (laidAt b o s.data.toList))) (by first | (go_simp;exact hr _)) ?_)
  go_end0
  exact ⟨rfl,rfl⟩
end Go.Proofs.YtidacaihmjdmkaaGreat
namespace Go.Proofs.YtidacaihmjdmkaaGreat
open Go.RowKit Go.Lib
theorem zeroSec : (Tryz.prog.info? 246).map (fun i => (i.zero,i.size)) = some (some (.agg (secCells (List.replicate 128 0))),128) := by kernel_rfl
structure Sec (w w' : World) (g : Nat) (b : List UInt8) (cs : Array Value) : Prop where
  sec : Blk w' g 246 (secCells b)
  chk : Blk w' w.heap.size 61 cs
  new : Newer w w'
  len : b.length = 128
  far : w.heap.size < g
section
variable {w w' w'' : World} {g : Nat} {b : List UInt8} {cs : Array Value}
theorem Sec.below (h : Sec w w' g b cs) (hB : Newer w' w'') : Sec w w'' g b cs := ⟨h.sec.below hB h.sec.lt,h.chk.below hB h.chk.lt,h.new.trans hB,h.len,h.far⟩
theorem Sec.put (h : Sec w w' g b cs) (o : Nat) (s : List UInt8) (hs : o + s.length ≤ 128) : Sec w (w'.setRow g (secCells (laidAt b o s))) g (laidAt b o s) cs :=
  ⟨setRow_heap _ _ _ _ _ _ h.sec,(setRow_other _ _ _ _ (Nat.ne_of_lt h.far)).trans h.chk,below_setRow h.new (Nat.le_of_lt h.far) _,by rw [laidAt_length _ _ _ (by rw [h.len];exact hs)];exact h.len,h.far⟩
theorem secCells_set (b : List UInt8) (k : Nat) (x : UInt8) : (secCells b).setIfInBounds k (.int .u8 (x.toNat : Int)) = secCells (b.set k x) := by
  simp [secCells,byteCells,List.map_set]
theorem Sec.set (h : Sec w w' g b cs) (k : Nat) (x : UInt8) : Sec w (w'.setCell ⟨g,k,none⟩ (.int .u8 (x.toNat : Int))) g (b.set k x) cs :=
  ⟨by rw [← secCells_set];exact h.sec.set_ _ _,h.chk.far (by show w.heap.size ≠ g;exact Nat.ne_of_lt h.far) _,h.new.setCell (by show w.heap.size ≤ g;exact Nat.le_of_lt h.far) _,by simp [h.len],h.far⟩
theorem Sec.bytes (h : Sec w w' g b cs) (k : Nat) : ByteBlk w' g (b.take k) := by
  refine ⟨fun j hj => ?_,fun j hj => h.sec.frozen j⟩
  have hjb : j < b.length := by simp at hj;omega
  refine (h.sec.cell j).trans ?_
  simp [secCells,byteCells,hjb]
theorem Sec.at_ (h : Sec w w' g b cs) (k : Nat) (hk : k < 128) : ∃ x : UInt8,w'.cell? ⟨g,k,none⟩ = some (.int .u8 (x.toNat : Int)) := by
  have hkb : k < b.length := by rw [h.len];exact hk
  refine ⟨b[k],(h.sec.cell k).trans ?_⟩
  simp [secCells,byteCells,hkb]
end
def u8 (x : Int) : UInt8 := UInt8.ofNat x.toNat
theorem u8_nat {x : Int} (h : 0 ≤ x ∧ x < 256) : ((u8 x).toNat : Int) = x := by
  unfold u8
  rw [UInt8.toNat_ofNat',Nat.mod_eq_of_lt (by omega)]
  omega
def Chk.lists (C : Chk) (b : List UInt8) : Nat → List UInt8
  | 0 => b
  | k + 1 => ((C.lists b k).set (29 + 2 * k) (u8 (C.order[k]?.getD 0))).set (29 + 2 * k + 1) (u8 (C.lens[k]?.getD 0))
def Chk.head (C : Chk) : List UInt8 :=
  (laidAt (laidAt (laidAt (laidAt (List.replicate 128 0) 0 (leB C.gen 8)) 8 (leB C.epoch 4)) 12 (leB C.lsn 8)) 20 (leB C.ver 8)).set 28 (u8 C.order.length)
def Chk.body (C : Chk) : List UInt8 := C.lists C.head C.order.length
def Chk.enc (C : Chk) : List UInt8 := laidAt (laidAt C.body 116 (leB (crcOf (C.body.take 116)) 4)) 120 (leB C.gen 8)
structure Chk.Nums (C : Chk) : Prop where
  gen : 0 ≤ C.gen ∧ C.gen < 18446744073709551616
  epoch : 0 ≤ C.epoch ∧ C.epoch < 4294967296
  lsn : 0 ≤ C.lsn ∧ C.lsn < 18446744073709551616
  ver : 0 ≤ C.ver ∧ C.ver < 18446744073709551616
theorem sec_put {w : World} (o k : Nat) (n : Int) (hk : o + k ≤ 128) (ho : o < 128) (v : World) (g : Nat) (b : List UInt8) (cs : Array Value) (h : Sec w v g b cs) :
    Calls Tryz.prog 159 #[.pointer (some ⟨g,0,none⟩), .int .i64 (o : Int), .string (putB n k)] v fun e w' => e = .returned (.tuple #[]) ∧ Sec w w' g (laidAt b o (leB n k)) cs :=
  (put_any g b o _ v h.sec h.len (by rw [putB_size];exact hk) ho).mono (by rintro e w' ⟨rfl,rfl⟩;exact ⟨rfl,h.put o _ (by show o + (leB n k).length ≤ 128;rw [leB_len];exact hk)⟩)
theorem Encode_bad (C : Chk) (hR : ¬ C.Right) (AO : Option Addr) (cO : Nat) (AL : Option Addr) (cL : Nat) (w : World) (h : ChkIn w w.heap.size C AO AL) (hn1 : C.order.length ≤ 1000000000) (hn2 : C.lens.length ≤ 1000000000) :
    Calls Tryz.prog 120 #[.agg (chkCells C AO cO AL cL)] w fun e w' => e = .returned (.tuple #[.string ⟨#[]⟩, .int .i64 5]) ∧ Newer w w' := by
  have hr := CkptRight_any C AO cO AL cL _ ((h.alloc (Nat.le_refl _) (.cells (chkCells C AO cO AL cL) 61)).more (by simp)) hn1 hn2
  rw [decide_eq_false hR] at hr
  clear hR h
  go_enter Tryz.func120,Tryz.ntmps120
  go_wp2_with (go_at_call 158;(with_reducible refine hr.mono ?_);rintro e w1 ⟨rfl,hB⟩)
  exact bodyPost_ret (v := .tuple #[.string ⟨#[]⟩, .int .i64 5]) (by simp [results,Tryz.f120,go_sem]) rfl ⟨rfl,((Newer.refl w).alloc _).trans hB⟩
set_option maxHeartbeats 4000000 in
theorem Encode_ok (C : Chk) (hR : C.Right) (hN : C.Nums) (AO : Option Addr) (cO : Nat) (AL : Option Addr) (cL : Nat) (w : World) (h : ChkIn w w.heap.size C AO AL) :
    Calls Tryz.prog 120 #[.agg (chkCells C AO cO AL cL)] w fun e w' => e = .returned (.tuple #[.string ⟨C.enc.toArray⟩, .int .i64 0]) ∧ Newer w w' := by
  have hmany := hR.many
  have hlen := hR.len
  have hr := CkptRight_any C AO cO AL cL _ ((h.alloc (Nat.le_refl _) (.cells (chkCells C AO cO AL cL) 61)).more (by simp)) (by omega) (by omega)
  rw [decide_eq_true hR] at hr
  have hb0 := Blk.new w 61 (chkCells C AO cO AL cL)
  obtain ⟨hz,hi⟩ := zero_of_info zeroSec
  have he1 : IntKind.u64.wrap C.epoch = C.epoch := IntWalk.u64_in _ (by have := hN.epoch;omega)
  have p1 : ∀ v,Calls Tryz.prog 154 #[.int .u64 C.gen, .int .i64 8] v fun e w' => e = .returned (.string (putB C.gen 8)) ∧ Newer v w' := fun v => Put_any C.gen 8 (by omega) hN.gen v
  have p2 : ∀ v,Calls Tryz.prog 154 #[.int .u64 C.epoch, .int .i64 4] v fun e w' => e = .returned (.string (putB C.epoch 4)) ∧ Newer v w' := fun v => Put_any C.epoch 4 (by omega) (by have := hN.epoch;omega) v
  have p3 : ∀ v,Calls Tryz.prog 154 #[.int .u64 C.lsn, .int .i64 8] v fun e w' => e = .returned (.string (putB C.lsn 8)) ∧ Newer v w' := fun v => Put_any C.lsn 8 (by omega) hN.lsn v
  have p4 : ∀ v,Calls Tryz.prog 154 #[.int .u64 C.ver, .int .i64 8] v fun e w' => e = .returned (.string (putB C.ver 8)) ∧ Newer v w' := fun v => Put_any C.ver 8 (by omega) hN.ver v
  have q1 : ∀ v g b cs,Sec w v g b cs → Calls Tryz.prog 159 #[.pointer (some ⟨g,0,none⟩), .int .i64 0, .string (putB C.gen 8)] v fun e w' => e = .returned (.tuple #[]) ∧ Sec w w' g (laidAt b 0 (leB C.gen 8)) cs := fun v g b cs h => sec_put 0 8 _ (by omega) (by omega) v g b cs h
  have q2 : ∀ v g b cs,Sec w v g b cs → Calls Tryz.prog 159 #[.pointer (some ⟨g,0,none⟩), .int .i64 8, .string (putB C.epoch 4)] v fun e w' => e = .returned (.tuple #[]) ∧ Sec w w' g (laidAt b 8 (leB C.epoch 4)) cs := fun v g b cs h => sec_put 8 4 _ (by omega) (by omega) v g b cs h
  have q3 : ∀ v g b cs,Sec w v g b cs → Calls Tryz.prog 159 #[.pointer (some ⟨g,0,none⟩), .int .i64 12, .string (putB C.lsn 8)] v fun e w' => e = .returned (.tuple #[]) ∧ Sec w w' g (laidAt b 12 (leB C.lsn 8)) cs := fun v g b cs h => sec_put 12 8 _ (by omega) (by omega) v g b cs h
  have q4 : ∀ v g b cs,Sec w v g b cs → Calls Tryz.prog 159 #[.pointer (some ⟨g,0,none⟩), .int .i64 20, .string (putB C.ver 8)] v fun e w' => e = .returned (.tuple #[]) ∧ Sec w w' g (laidAt b 20 (leB C.ver 8)) cs := fun v g b cs h => sec_put 20 8 _ (by omega) (by omega) v g b cs h
  have hS0 : ∀ w1,Newer (w.alloc (.cells (chkCells C AO cO AL cL) 61)) w1 → Sec w (w1.alloc (.cells (secCells (List.replicate 128 0)) 246)) w1.heap.size (List.replicate 128 0) (chkCells C AO cO AL cL) := fun w1 hB =>
    ⟨Blk.new _ _ _,(hb0.below hB hb0.lt).alloc _,(((Newer.refl w).alloc _).trans hB).alloc _,by simp,by have := hB.size;simp at this;omega⟩
  have x28w : IntKind.u8.wrap (C.order.length : Int) = (C.order.length : Int) := IntWalk.u8_in _ (by omega)
  have HLEN := Lib.hid hlen
  have H0 := Lib.hid h
  have HS0 := Lib.hid hS0
  clear hlen hS0 hb0
  go_enter Tryz.func120,Tryz.ntmps120
  generalize hZ : secCells (List.replicate 128 0) = Z at *
  go_wp2_with (first
    | (go_at_call 158;(with_reducible refine hr.mono ?_);rintro e w1 ⟨rfl,hB⟩;have hS := HS0.out w1 hB;have c0 : _ = some (Value.int .u64 C.gen) := hS.chk.cell 0;clear hr hB HS0)
    | (go_at_call 154;(with_reducible refine (p1 _).mono ?_);rintro e w2 ⟨rfl,hB⟩;replace hS := hS.below hB;clear c0 hB p1)
    | (go_at_call 159;(with_reducible refine (q1 _ _ _ _ hS).mono ?_);rintro e w3 ⟨rfl,hS3⟩;have c1 : _ = some (Value.int .u32 C.epoch) := hS3.chk.cell 1;clear hS q1)
    | (go_at_call 154;(with_reducible refine (p2 _).mono ?_);rintro e w4 ⟨rfl,hB⟩;have hS4 := hS3.below hB;clear c1 hB p2 hS3)
    | (go_at_call 159;(with_reducible refine (q2 _ _ _ _ hS4).mono ?_);rintro e w5 ⟨rfl,hS5⟩;have c2 : _ = some (Value.int .u64 C.lsn) := hS5.chk.cell 2;clear hS4 q2)
    | (go_at_call 154;(with_reducible refine (p3 _).mono ?_);rintro e w6 ⟨rfl,hB⟩;have hS6 := hS5.below hB;clear c2 hB p3 hS5)
    | (go_at_call 159;(with_reducible refine (q3 _ _ _ _ hS6).mono ?_);rintro e w7 ⟨rfl,hS7⟩;have c3 : _ = some (Value.int .u64 C.ver) := hS7.chk.cell 3;clear hS6 q3)
    | (go_at_call 154;(with_reducible refine (p4 _).mono ?_);rintro e w8 ⟨rfl,hB⟩;have hS8 := hS7.below hB;clear c3 hB p4 hS7)
    | (go_at_call 159;(with_reducible refine (q4 _ _ _ _ hS8).mono ?_);rintro e w9 ⟨rfl,hS9⟩;have c4 : _ = some (Value.slice AO C.order.length cO) := hS9.chk.cell 4;obtain ⟨x28,c28⟩ := hS9.at_ 28 (by omega);have f28 := hS9.sec.frozen 28;have hS10 := Lib.hid (hS9.set 28 (u8 C.order.length));rw [u8_nat ⟨by omega,by omega⟩] at hS10;have d4 : (w9.setCell ⟨w1.heap.size,28,none⟩ (.int .u8 (C.order.length : Int))).cell? _ = some (Value.slice AO C.order.length cO) := hS10.out.chk.cell 4;clear hS8 q4))
  have hS0 : Sec w _ _ C.head (chkCells C AO cO AL cL) := hS10.out
  generalize w9.setCell ⟨w1.heap.size,28,none⟩ (.int .u8 (C.order.length : Int)) = wb at hS0 ⊢
  clear hS9 hS10 c4 c28 f28 d4
  generalize w1.heap.size = g at *
  generalize hB0 : C.head = B0 at *
  have HB0 := Lib.hid hB0
  clear hB0
  go_loopw [5,6,35] (fun _ _ i wr => ∃ k : Nat,k ≤ C.order.length ∧ i = .int .i64 k ∧ Sec w wr g (C.lists B0 k) (chkCells C AO cO AL cL)) (fun _ _ i _ => C.order.length - (RowKit.intOf i).toNat)
  case atStart => exact ⟨0,by omega,rfl,hS0⟩
  case round =>
    clear hS0
    obtain ⟨k,hk,rfl,hS⟩ := hrel
    by_cases hlt : k < C.order.length
    · obtain ⟨x,hkx⟩ : ∃ x,C.order[k]? = some x := ⟨_,List.getElem?_eq_getElem hlt⟩
      obtain ⟨y,hkn⟩ : ∃ y,C.lens[k]? = some y := ⟨_,List.getElem?_eq_getElem (by rw [HLEN.out];exact hlt)⟩
      have hat := hR.all k hlt
      unfold Chk.at_ at hat
      rw [hkx,hkn] at hat
      simp only [Option.getD_some] at hat
      obtain ⟨ha1,_,ha2⟩ := hat
      have hin := H0.out.below hS.new
      obtain ⟨ad,rfl,_,ca⟩ := read_cell (u := .int .i64 x) hin.o hlt (by rw [List.getElem?_map,hkx];rfl)
      obtain ⟨bd,rfl,_,cb⟩ := read_cell (u := .int .i64 y) hin.l (by rw [HLEN.out];exact hlt) (by rw [List.getElem?_map,hkn];rfl)
      have hls : C.lists B0 (k + 1) = ((C.lists B0 k).set (29 + 2 * k) (u8 x)).set (29 + 2 * k + 1) (u8 y) := by
        show ((C.lists B0 k).set (29 + 2 * k) (u8 (C.order[k]?.getD 0))).set (29 + 2 * k + 1) (u8 (C.lens[k]?.getD 0)) = _
        rw [hkx,hkn];rfl
      have hq1 : 29 + 2 * k + 1 < 128 := by omega
      have w1 : IntKind.u8.wrap x = x := IntWalk.u8_in _ (by omega)
      have w2 : IntKind.u8.wrap y = y := IntWalk.u8_in _ (by omega)
      obtain ⟨z1,d1⟩ := hS.at_ (29 + 2 * k) (by omega)
      obtain ⟨z2,d2⟩ := hS.at_ (29 + 2 * k + 1) (by omega)
      have f1 := hS.sec.frozen (29 + 2 * k)
      have f2 := hS.sec.frozen (29 + 2 * k + 1)
      have cl : _ = some (Value.slice (some bd) C.lens.length cL) := hS.chk.cell 5
      have hS2 := (hS.set (29 + 2 * k) (u8 x)).set (29 + 2 * k + 1) (u8 y)
      rw [u8_nat ⟨by omega,by omega⟩,u8_nat ⟨by omega,by omega⟩] at hS2
      have HS2 := Lib.hid hS2
      have HLS := Lib.hid hls
      have hkL : (k : Int) < (C.lens.length : Int) := by rw [HLEN.out];omega
      clear hS2 hls hin hkx hkn hS
      go_wp2
      go_roundw
      case rel => exact ⟨k + 1,by omega,by go_num,by rw [HLS.out];exact HS2.out⟩
      case measure => simp [RowKit.intOf];omega
    · obtain rfl : k = C.order.length := by omega
      have hfin : C.enc = laidAt (laidAt (C.lists B0 C.order.length) 116 (leB (crcOf ((C.lists B0 C.order.length).take 116)) 4)) 120 (leB C.gen 8) := by unfold Chk.enc Chk.body;rw [HB0.out]
      generalize C.lists B0 C.order.length = B1 at *
      have hcl := crcOf_lt (B1.take 116)
      have ec : IntKind.u64.wrap (crcOf (B1.take 116) : Int) = (crcOf (B1.take 116) : Int) := IntWalk.u64_in _ (by omega)
      have hsum := fun v => Sum_any ⟨(B1.take 116).toArray⟩ (by have := hS.len;simp [ByteArray.size];omega) v
      have p1 : ∀ v,Calls Tryz.prog 154 #[.int .u64 C.gen, .int .i64 8] v fun e w' => e = .returned (.string (putB C.gen 8)) ∧ Newer v w' := fun v => Put_any C.gen 8 (by omega) hN.gen v
      have p2 : ∀ v,Calls Tryz.prog 154 #[.int .u64 (crcOf (B1.take 116) : Int), .int .i64 4] v fun e w' => e = .returned (.string (putB (crcOf (B1.take 116)) 4)) ∧ Newer v w' := fun v => Put_any (crcOf (B1.take 116) : Int) 4 (by omega) (by omega) v
      have q1 : ∀ v g b cs,Sec w v g b cs → Calls Tryz.prog 159 #[.pointer (some ⟨g,0,none⟩), .int .i64 116, .string (putB (crcOf (B1.take 116)) 4)] v fun e w' => e = .returned (.tuple #[]) ∧ Sec w w' g (laidAt b 116 (leB (crcOf (B1.take 116)) 4)) cs := fun v g b cs h => sec_put 116 4 _ (by omega) (by omega) v g b cs h
      have q2 : ∀ v g b cs,Sec w v g b cs → Calls Tryz.prog 159 #[.pointer (some ⟨g,0,none⟩), .int .i64 120, .string (putB C.gen 8)] v fun e w' => e = .returned (.tuple #[]) ∧ Sec w w' g (laidAt b 120 (leB C.gen 8)) cs := fun v g b cs h => sec_put 120 8 _ (by omega) (by omega) v g b cs h
      have hb116 := hS.bytes 116
      have hl116 : (B1.take 116).length = 116 := by rw [List.length_take,hS.len];rfl
      have HFIN := Lib.hid hfin
      clear hfin hcl
      generalize (crcOf (B1.take 116) : Int) = cv at *
      go_wp2_with (first
        | (have _g := hb116;refine wpList_toString (o := ⟨some 59,_,_,_,_,_⟩) _ rfl rfl Tryz.underlying100 Tryz.underlying5 Tryz.underlying9 hb116 hl116.symm rfl rfl ?_;clear _g hb116)
        | (go_at_call 155;(with_reducible refine (hsum _).mono ?_);rintro e w2 ⟨rfl,hB⟩;have hS2 := hS.below hB;clear hS hB hsum)
        | (go_at_call 154;(with_reducible refine (p2 _).mono ?_);rintro e w3 ⟨rfl,hB⟩;have hS3 := hS2.below hB;clear hB p2 hS2)
        | (go_at_call 159;(with_reducible refine (q1 _ _ _ _ hS3).mono ?_);rintro e w4 ⟨rfl,hS4⟩;have c0 : _ = some (Value.int .u64 C.gen) := hS4.chk.cell 0;clear hS3 q1)
        | (go_at_call 154;(with_reducible refine (p1 _).mono ?_);rintro e w5 ⟨rfl,hB⟩;have hS5 := hS4.below hB;clear hB p1 hS4 c0)
        | (go_at_call 159;(with_reducible refine (q2 _ _ _ _ hS5).mono ?_);rintro e w6 ⟨rfl,hS6⟩;have hb128 := hS6.bytes 128;have hl128 := hS6.len;rw [List.take_of_length_le (by omega)] at hb128;clear hS5 q2)
        | (have _g := hb128;refine wpList_toString (o := ⟨some 69,_,_,_,_,_⟩) _ rfl rfl Tryz.underlying100 Tryz.underlying5 Tryz.underlying9 hb128 hl128.symm rfl rfl ?_;clear _g hb128))
      refine bodyPost_ret (results_tmp2 rfl _ _ _) rfl ⟨?_,hS6.new⟩
      rw [HFIN.out]
      rfl
end Go.Proofs.YtidacaihmjdmkaaGreat
namespace Go.Proofs.YtidacaihmjdmkaaGreat
open Go.RowKit
theorem leaves_congr {P : Program} {fn : Func} {tmps tmps' : Array Value} {R : Ending → World → Prop} (h : results fn tmps = results fn tmps') : ∀ (ds : List Deferred) (u : FrameMode) (w : World),Leaves P fn tmps R ds u w → Leaves P fn tmps' R ds u w
  | [], .returning,w,hl => by
    obtain ⟨v,h1,h2⟩ := hl
    exact ⟨v,by rw [← h];exact h1,h2⟩
  | [], .panicking _,_,hl => hl
  | [], .run,_,hl => hl
  | d :: ds,u,w,⟨h1,fv,cap,f,args,h2,h3,h4⟩ => ⟨h1,fv,cap,f,args,h2,h3,h4.mono fun e u' w' he => by
      cases e with
      | returned v => exact leaves_congr h ds _ _ he
      | panicked ch => exact leaves_congr h ds _ _ he
      | outgrown => exact he⟩
theorem results1_congr {fn : Func} {p : Tmp} {t : TypeId} (h : fn.results = #[.cell p t]) {tmps tmps' : Array Value} (hp : tmps.getD p undef = tmps'.getD p undef) : results fn tmps = results fn tmps' := by
  have e : tmps[p]?.getD undef = tmps'[p]?.getD undef := by simpa using hp
  simp [results,h,e]
theorem put_getD {a : Act} {dst : Option Tmp} {v : Value} {p : Tmp} (h : dst ≠ some p) : (a.put dst v).tmps.getD p undef = a.tmps.getD p undef := by
  cases dst with
  | none => rfl
  | some d =>
    have : d ≠ p := fun e => h (by rw [e])
    simp [Act.put,this]
theorem put_defers' {a : Act} {dst : Option Tmp} {v : Value} : (a.put dst v).defers = a.defers := by cases dst <;> rfl
def SteadyOn (ops : List Oper) (Q : Exit → Act → World → Prop) : Prop := ∀ o ∈ ops,∀ c (a : Act) v w,Q (.panic c) (a.put o.dst v) w → Q (.panic c) a w
def offSlot (ops : List Oper) (p : Tmp) : Bool := ops.all fun o => o.dst != some p
theorem offSlot_spec {ops : List Oper} {p : Tmp} (h : offSlot ops p = true) {o : Oper} (ho : o ∈ ops) : o.dst ≠ some p := by
  have := List.all_eq_true.1 h o ho
  simpa using this
theorem door1_steady {P : Program} {fn : Func} {R : Ending → World → Prop} {K : Act → World → Prop} {ops : List Oper} {p : Tmp} {t : TypeId} (h : fn.results = #[.cell p t]) (hb : offSlot ops p = true) : SteadyOn ops (Exit.then K (bodyPostD P fn R)) := by
  intro o ho c a v w hq
  have hq : Leaves P fn (a.put o.dst v).tmps R (a.put o.dst v).defers (.panicking c) w := hq
  rw [put_defers'] at hq
  exact leaves_congr (results1_congr h (put_getD (offSlot_spec hb ho))) _ _ _ hq
section
variable {P : Program} {Q : Exit → Act → World → Prop} {md : Region.Mode} {R E : World → World → Prop}
theorem wpAnyE_takesS (G : Grow2 R E) {T : List Nat} {ops : List Oper} (hs : Region.noSelect ops.toArray = true) (hQ : SteadyOn ops Q) (fuel : Nat) : ∀ (l : List (Nat × Bool)) (listed : Array Bool) (a : Act) (w : World),
    Region.takesB md ops.toArray T l listed = true → wpTakes P md ops Q R E T fuel l listed a w → wpAnyE P md ops.toArray Q R E T (l.length + fuel) listed a w
  | [],listed,a,w,_,h => by simpa [wpTakes] using h
  | (i,p) :: l,listed,a,w,hB,h => by
    simp only [Region.takesB,Bool.and_eq_true,Bool.or_eq_true] at hB
    obtain ⟨o,v,ho,hy,hK⟩ := h
    have ho' : ops.toArray[i]? = some o := by simpa using ho
    rw [show ((i,p) :: l).length + fuel = (l.length + fuel) + 1 by simp;omega]
    exact wpAnyE_first G p ho' (Region.noSelect_spec hs) (fun c a w => hQ o (List.mem_of_getElem? ho) c a v w) (l.length + fuel) listed a w (Region.free_spec ho' hB.1.1.2) (hB.1.2.imp id fun h j oj hj hoj hun => Region.waitB_spec h j oj hj hoj hun) (by simpa using hB.1.1.1) hy (wpAnyE_takesS G hs hQ fuel l _ _ _ hB.2 hK)
theorem wp_region_takesS (G : Grow2 R E) (T : List Nat) (l : List (Nat × Bool)) (fuel : Nat) {id : Nat} {ops : List Oper} {a : Act} {w : World} (hm : P.follows .mixedOrders = true) (hs : Region.noSelect ops.toArray = true)
    (hl : l.length + fuel = ops.length) (hB : Region.takesB .any ops.toArray T l (Array.replicate ops.length false) = true) (hQ : SteadyOn ops Q)
    (h : wpTakes P .any ops Q R E T fuel l (Array.replicate ops.length false) a w.drew) : (Code.region id ops.toArray true).wp P Q a w := by
  refine wp_region_any hm (wpAny_of_E G (T := T) _ _ _ _ ?_)
  have := wpAnyE_takesS G hs hQ fuel l _ a _ hB h
  rw [hl] at this
  simpa using this
end
end Go.Proofs.YtidacaihmjdmkaaGreat
namespace Go.Proofs.YtidacaihmjdmkaaGreat
open Go.RowKit
attribute [local go_sem high] run_mx run_mn
def Tab.chk (T : Tab) (gen epoch lsn ver : Int) : Chk := { gen := gen,epoch := epoch,lsn := lsn,ver := ver,order := T.order,lens := T.lens }
theorem nodup_take {l : List Int} (h : l.Nodup) {k : Nat} {x : Int} (hx : l[k]? = some x) : ¬ x ∈ l.take k := by
  intro hm
  obtain ⟨j,hj⟩ := List.mem_iff_getElem?.1 hm
  have hjk : j < k := by
    rcases Nat.lt_or_ge j k with h | h
    · exact h
    · rw [List.getElem?_eq_none (by simp;omega)] at hj;cases hj
  rw [List.getElem?_take_of_lt hjk] at hj
  obtain ⟨hk1,e1⟩ := List.getElem?_eq_some_iff.1 hx
  obtain ⟨hj1,e2⟩ := List.getElem?_eq_some_iff.1 hj
  exact (List.pairwise_iff_getElem.1 h) j k hj1 hk1 hjk (e2.trans e1.symm)
theorem Tab.chk_right (T : Tab) (hT : T.Ok) (gen epoch lsn ver : Int) (hg : gen ≠ 0) (hl : lsn ≠ 0) : (T.chk gen epoch lsn ver).Right := by
  have hsg := hT.segs
  have hsl := hT.slots
  have hp := hT.pos
  refine ⟨hg,hl,by show T.order.length ≠ 0;omega,hT.many,hT.len,fun k hk => ?_⟩
  have hk' : k < T.order.length := hk
  obtain ⟨x,hx⟩ : ∃ x,T.order[k]? = some x := ⟨_,List.getElem?_eq_getElem hk'⟩
  obtain ⟨y,hy⟩ : ∃ y,T.lens[k]? = some y := ⟨_,List.getElem?_eq_getElem (by have := hT.len;omega)⟩
  have h1 := hT.inn x (List.mem_of_getElem? hx)
  have h2 := hT.lens y (List.mem_of_getElem? hy)
  unfold Chk.at_
  show (0 ≤ T.order[k]?.getD 0 ∧ T.order[k]?.getD 0 < 16) ∧ ¬ (T.order[k]?.getD 0 ∈ T.order.take k) ∧ 0 ≤ T.lens[k]?.getD 0 ∧ T.lens[k]?.getD 0 ≤ 30
  rw [hx,hy]
  show (0 ≤ x ∧ x < 16) ∧ ¬ (x ∈ T.order.take k) ∧ 0 ≤ y ∧ y ≤ 30
  exact ⟨by omega,nodup_take hT.nodup hx,by omega⟩
def ckDo (d : Dsk) (gen : Int) (s : ByteArray) : Int × Int × Dsk :=
  if d.flushE ≠ 0 then (d.flushE,gen,d)
  else if d.flushS.writeE ((gen + 1) % 2) s ≠ 0 then (d.flushS.writeE ((gen + 1) % 2) s,gen,d.flushS)
  else if (d.flushS.writeS ((gen + 1) % 2) s).flushE ≠ 0 then ((d.flushS.writeS ((gen + 1) % 2) s).flushE,gen,d.flushS.writeS ((gen + 1) % 2) s)
  else (0,gen + 1,(d.flushS.writeS ((gen + 1) % 2) s).flushS)
theorem lcaught_end {fn : Func} {p : Tmp} {w1 : World} {R : Ending → World → Prop} {q : Nat} {x : Int} {a : Act} {S0 : Nat → Prop} {w0 : World} {pre post : List Thing} (hf : fn.results = #[.cell p 31]) (h : Now S0 w0 w1 (pre ++ Thing.cells q 31 #[.int .i64 0] :: post))
    (hd : a.defers = [{ target := .fn (.func 96) #[],args := #[.pointer (some ⟨q,0,none⟩)] }]) (hp : a.tmps.getD p undef = .pointer (some ⟨q,0,none⟩))
    (hR : ∀ w',Now S0 w0 w' (pre ++ Thing.cells q 31 #[.int .i64 x] :: post) → R (.returned (.int .i64 x)) w') :
    bodyPostD Tryz.prog fn R (.panic [{ v := stopV x,recovered := false }]) a w1 := by
  obtain ⟨tmps,defers⟩ := a
  cases hd
  refine leaves_cons (f := 96) (args := #[.pointer (some ⟨q,0,none⟩)]) (by simp) (by simp [go_sem]) ?_
  refine (lcaught_bad q (.int .i64 0) x [] _ (Now.blk h)).mono ?_
  rintro en u' w'' ⟨rfl,rfl,rfl⟩
  have hz := (Now.set_ h 0 (.int .i64 x)).alloc (.cells #[.int .i64 x] 232)
  have ce : _ = some (Value.int .i64 x) := (Now.blk hz).cell 0
  have hp' : tmps[p]?.getD undef = .pointer (some ⟨q,0,none⟩) := by simpa using hp
  exact ⟨.int .i64 x,by simp [results,hf,hp',asAddr,go_sem,ce,Result.andThen],hR _ hz⟩
theorem lcaught_fine {fn : Func} {p : Tmp} {w1 : World} {R : Ending → World → Prop} {q : Nat} {x : Int} {a : Act} {S0 : Nat → Prop} {w0 : World} {pre post : List Thing} (hf : fn.results = #[.cell p 31]) (h : Now S0 w0 w1 (pre ++ Thing.cells q 31 #[.int .i64 x] :: post))
    (hd : a.defers = [{ target := .fn (.func 96) #[],args := #[.pointer (some ⟨q,0,none⟩)] }]) (hp : a.tmps.getD p undef = .pointer (some ⟨q,0,none⟩))
    (hR : ∀ w',Now S0 w0 w' (pre ++ Thing.cells q 31 #[.int .i64 x] :: post) → R (.returned (.int .i64 x)) w') :
    bodyPostD Tryz.prog fn R .ret a w1 := by
  obtain ⟨tmps,defers⟩ := a
  cases hd
  refine leaves_cons (f := 96) (args := #[.pointer (some ⟨q,0,none⟩)]) (by simp) (by simp [go_sem]) ?_
  refine (lcaught_ok q _).mono ?_
  rintro en u' w'' ⟨rfl,rfl,rfl⟩
  have hz := h.alloc (.cells #[.int .i64 0] 232)
  have ce : _ = some (Value.int .i64 x) := (Now.blk hz).cell 0
  have hp' : tmps[p]?.getD undef = .pointer (some ⟨q,0,none⟩) := by simpa using hp
  exact ⟨.int .i64 x,by simp [results,hf,hp',asAddr,go_sem,ce,Result.andThen],hR _ hz⟩
theorem flush_pend (d : Dsk) : d.flushS.pend.length ≤ d.pend.length := by
  unfold Dsk.flushS
  split
  · exact Nat.le_refl _
  · exact Nat.zero_le _
theorem write_pend (d : Dsk) (i : Int) (s : ByteArray) : (d.writeS i s).pend.length ≤ d.pend.length + 1 := by
  unfold Dsk.writeS
  split
  · unfold Dsk.write Dsk.use
    simp
  · omega
set_option maxHeartbeats 8000000 in
theorem Checkpoint_any (g gd : Nat) (T : Tab) (hT : T.Ok) (AO : Option Addr) (cO : Nat) (AL : Option Addr) (cL : Nat) (AF : Option Addr) (cF : Nat) (lsn epoch gen ver : Int) (d : Dsk) (hp : d.pend.length ≤ 1000000) (hl : 1 ≤ lsn ∧ lsn < 18446744073709551616) (he : 0 ≤ epoch ∧ epoch < 4294967296) (hg : 0 ≤ gen ∧ gen + 1 < 18446744073709551616) (hv : 0 ≤ ver ∧ ver < 18446744073709551616)
    {S0 : Nat → Prop} {w0 w : World} {L : List Thing} (hS : Now S0 w0 w (logParts g gd T AO cO AL cL AF cF lsn epoch gen d ++ L)) :
    Calls Tryz.prog 65 #[.pointer (some ⟨g,0,none⟩), .int .u64 ver] w fun e w' =>
      e = .returned (.int .i64 (ckDo d gen ⟨(T.chk (gen + 1) epoch lsn ver).enc.toArray⟩).1) ∧ Now S0 w0 w' (logParts g gd T AO cO AL cL AF cF lsn epoch (ckDo d gen ⟨(T.chk (gen + 1) epoch lsn ver).enc.toArray⟩).2.1 (ckDo d gen ⟨(T.chk (gen + 1) epoch lsn ver).enc.toArray⟩).2.2 ++ L) := by
  have hR := T.chk_right hT (gen + 1) epoch lsn ver (by omega) (by omega)
  have hNm : (T.chk (gen + 1) epoch lsn ver).Nums := ⟨⟨by show 0 ≤ gen + 1;omega,hg.2⟩,he,⟨by show 0 ≤ lsn;omega,hl.2⟩,hv⟩
  obtain ⟨SC,hSC⟩ : ∃ SC,(⟨(T.chk (gen + 1) epoch lsn ver).enc.toArray⟩ : ByteArray) = SC := ⟨_,rfl⟩
  have hE := fun v (hv : ChkIn v v.heap.size (T.chk (gen + 1) epoch lsn ver) AO AL) => Encode_ok (T.chk (gen + 1) epoch lsn ver) hR hNm AO cO AL cL v hv
  rw [hSC] at hE ⊢
  have hS1 := Now.pushCells hS 31 #[.int .i64 0]
  have hlog := Now.blk (pre:=[_]) hS1
  have c0 : _ = some (Value.pointer (some ⟨gd,0,none⟩)) := hlog.cell 0
  have hfl := Loc.atZ (LFlush gd d (by omega)) [_,_,_,_,_] L hS1
  clear hSC hR hNm hlog
  go_enter_defers Tryz.func65,Tryz.ntmps65
  obtain ⟨e1,h1⟩ : ∃ e1,d.flushE = e1 := ⟨_,rfl⟩
  rw [h1] at hfl
  by_cases z1 : e1 = 0
  case neg =>
    have hck : ckDo d gen SC = (e1,gen,d) := by unfold ckDo;rw [if_pos (by rw [h1];exact z1),h1]
    have hfs : d.flushS = d := by
      unfold Dsk.flushS
      rw [if_pos]
      unfold Dsk.flushE at h1
      by_cases hd : d.dead = true
      · exact hd
      · rw [if_neg hd] at h1;exact absurd h1.symm z1
    rw [hck]
    have HFS := Lib.hid hfs
    clear hck hE h1 hfs
    go_wp2_with (first
      | (go_at_call 33;(with_reducible refine hfl.mono ?_);rintro e w1 ⟨rfl,hz,hS2⟩;clear hfl hS1 c0)
      | (go_at_call 102;(with_reducible refine (lmust_no _ z1 _).mono ?_);rintro e w2 ⟨rfl,rfl⟩))
    rw [HFS.out] at hS2
    exact lcaught_end (p := 4) rfl (pre:=[]) hS2 rfl rfl (fun w' h => ⟨rfl,Now.drop (pre:=[]) h⟩)
  subst z1
  have hck1 : ckDo d gen SC = if d.flushS.writeE ((gen + 1) % 2) SC ≠ 0 then (d.flushS.writeE ((gen + 1) % 2) SC,gen,d.flushS)
      else if (d.flushS.writeS ((gen + 1) % 2) SC).flushE ≠ 0 then ((d.flushS.writeS ((gen + 1) % 2) SC).flushE,gen,d.flushS.writeS ((gen + 1) % 2) SC)
      else (0,gen + 1,(d.flushS.writeS ((gen + 1) % 2) SC).flushS) := by
    unfold ckDo
    rw [if_neg (by rw [h1];simp)]
  have HCK1 := Lib.hid hck1
  clear hck1 h1
  go_wp2_with (first
    | (go_at_call 33;(with_reducible refine hfl.mono ?_);rintro e w1 ⟨rfl,hz,hS2⟩;clear hfl hS1 c0)
    | (go_at_call 102;(with_reducible refine (lmust_yes _).mono ?_);rintro e w2 ⟨rfl,rfl⟩))
  have hlog := Now.blk (pre:=[_]) hS2
  have htab := tabIn_of (pre:=[_,_]) hS2
  have hcell : ∀ v,Newer w1.drew v → v.cell? ⟨g,8,none⟩ = some (.int .u64 gen) ∧ v.cell? ⟨g,7,none⟩ = some (.int .u32 epoch) ∧ v.cell? ⟨g,6,none⟩ = some (.int .u64 lsn) ∧ v.cell? ⟨g,3,none⟩ = some (.slice AO T.order.length cO) ∧ v.cell? ⟨g,4,none⟩ = some (.slice AL T.lens.length cL) := fun v hv => by
    have hb1 := hlog.below hv.undrew hlog.lt
    exact ⟨hb1.cell 8,hb1.cell 7,hb1.cell 6,hb1.cell 3,hb1.cell 4⟩
  have hE2 : ∀ v,Newer w1.drew v → Calls Tryz.prog 120 #[.agg #[.int .u64 (gen + 1), .int .u32 epoch, .int .u64 lsn, .int .u64 ver, .slice AO T.order.length cO, .slice AL T.lens.length cL]] v fun e w' => e = .returned (.tuple #[.string SC, .int .i64 0]) ∧ Newer v w' := fun v hv =>
    hE v ⟨((htab.below hv.undrew).more hv.size).o,((htab.below hv.undrew).more hv.size).l⟩
  have hg1 : IntKind.u64.wrap (gen + 1) = gen + 1 := IntWalk.u64_in _ (by omega)
  have hS3 := hS2.drew
  clear hS2 hlog htab hE
  refine wp_region_ordN Newer.grow [(0,true),(1,true),(2,true),(3,true),(4,true),(5,true),(6,true),(7,true),(8,true),(9,true),(10,true),(11,true),(12,true),(13,true),(14,true),(15,true),(16,true),(17,true),(18,true),(19,true),(20,true),(21,true),(22,true),(23,true),(24,true),(25,true),(26,true),(27,true),(28,true),(29,true),(30,true)] [] (by kernel_rfl) (by kernel_rfl) rfl (by kernel_rfl) ?_
  iterate 31
    (apply wpOrd_take
     · exact rfl
     · intro w1 h1
       (obtain ⟨c8,c7,c6,c3,c4⟩ := hcell _ h1)
       go_simp
       first
         | with_reducible exact ⟨rfl,sqN _⟩
         | with_reducible exact hE2 _ h1
     simp only [Act.put,sqA,sqB,sqC])
  refine wpOrd_done fun w3 h3 => ?_
  refine post_intro ?_
  have hS4 := Now.below hS3 h3
  clear hS3 h3 hcell hE2
  go_wp2_with (go_at_call 102;(with_reducible refine (lmust_yes _).mono ?_);rintro e w2 ⟨rfl,rfl⟩)
  have hlog := Now.blk (pre:=[_]) hS4
  have HB : g < w3.drew.heap.size := hlog.lt
  have hcell : ∀ v,KeepG g w3.drew v → v.cell? ⟨g,0,none⟩ = some (.pointer (some ⟨gd,0,none⟩)) ∧ v.cell? ⟨g,8,none⟩ = some (.int .u64 gen) := fun v hv => by
    have hb1 := KeepG.blk (w := w3.drew) hv hlog
    exact ⟨hb1.cell 0,hb1.cell 8⟩
  have hS5 := hS4.drew
  clear hS4 hlog
  have m1 : (gen + 1).tmod 2 = (gen + 1) % 2 := Int.tmod_eq_emod_of_nonneg (by omega)
  have m2 : IntKind.u64.wrap ((gen + 1) % 2) = (gen + 1) % 2 := IntWalk.u64_in _ (by omega)
  have m3 : IntKind.i64.wrap ((gen + 1) % 2) = (gen + 1) % 2 := IntWalk.i64_in _ (by omega)
  refine wp_region_takesS (KeepG.grow g) [] [(0,true),(1,true),(2,true),(3,false),(4,true),(5,true),(6,true),(7,false),(8,true),(9,true),(10,true),(11,true)] 2 (by kernel_rfl) (by kernel_rfl) rfl (by kernel_rfl) (door1_steady (p := 4) rfl (by kernel_rfl)) ?_
  iterate 3
    (apply wpTakes_pure
     · exact rfl
     · intro w1
       skip
       go_simp
       first
         | with_reducible exact ⟨rfl,sqN _⟩
     simp only [Act.put,sqA,sqB,sqC])
  (apply wpTakes_take
   · exact rfl
   · intro w1v hR1
     (obtain ⟨d0,d8⟩ := hcell _ hR1)
     go_simp
     first
       | with_reducible exact ⟨rfl,sqN _⟩
   simp only [Act.put,sqA,sqB,sqC])
  iterate 3
    (apply wpTakes_pure
     · exact rfl
     · intro w1
       skip
       go_simp
       first
         | with_reducible exact ⟨rfl,sqN _⟩
     simp only [Act.put,sqA,sqB,sqC])
  (apply wpTakes_take
   · exact rfl
   · intro w1v hR1
     (obtain ⟨d0,d8⟩ := hcell _ hR1)
     go_simp
     first
       | with_reducible exact ⟨rfl,sqN _⟩
   simp only [Act.put,sqA,sqB,sqC])
  iterate 4
    (apply wpTakes_pure
     · exact rfl
     · intro w1
       skip
       go_simp
       first
         | with_reducible exact ⟨rfl,sqN _⟩
     simp only [Act.put,sqA,sqB,sqC])
  refine wpTakes_done ?_
  clear hcell HB
  generalize w3.drew = wc at hS5 ⊢
  have hp2 : d.flushS.pend.length ≤ 1000000000 := by have := flush_pend d;omega
  have hi2 : 0 ≤ (gen + 1) % 2 ∧ (gen + 1) % 2 < 2 := by omega
  refine wpAnyE_fork [12] (by kernel_rfl) (by simp) ?_
  refine sqM ?_
  refine ⟨_,rfl,?_⟩
  intro w1 h1 K hK
  replace hS5 := Now.below hS5 h1
  have hwr := Loc.atZ (LWrite gd d.flushS ((gen + 1) % 2) SC hp2) [_,_,_,_,_] L hS5
  go_simp
  go_at_call 23
  refine hwr.mono ?_
  rintro e w8 ⟨rfl,hz,hS9⟩
  refine hK _ _ (fun _ _ => ⟨(Now.blk (pre:=[_]) hS9).trans (Now.blk (pre:=[_]) hS5).symm,hz⟩) ?_
  clear hK K hwr hS5 hz h1
  clear w1
  try simp only [Act.put,sqA,sqB,sqC]
  obtain ⟨we,hwe⟩ : ∃ we,d.flushS.writeE ((gen + 1) % 2) SC = we := ⟨_,rfl⟩
  rw [hwe]
  refine wpAnyE_fork [13] (by kernel_rfl) (by simp) ?_
  refine sqM ?_
  refine ⟨_,rfl,?_⟩
  intro w1 h1 K hK
  replace hS9 := Now.below hS9 h1
  by_cases z2 : we = 0
  case neg =>
    go_simp
    go_at_call 102
    (with_reducible refine (lmust_no _ z2 _).mono ?_)
    rintro e w9 ⟨rfl,rfl⟩
    have hws : d.flushS.writeS ((gen + 1) % 2) SC = d.flushS := by unfold Dsk.writeS;rw [hwe,if_neg z2]
    rw [hws] at hS9
    have hck : ckDo d gen SC = (we,gen,d.flushS) := by rw [HCK1.out,hwe,if_pos z2]
    exact lcaught_end (p := 4) rfl (pre:=[]) hS9 rfl rfl (fun w' h => by rw [hck];exact ⟨rfl,Now.drop (pre:=[]) h⟩)
  subst z2
  have hck2 : ckDo d gen SC = if (d.flushS.writeS ((gen + 1) % 2) SC).flushE ≠ 0 then ((d.flushS.writeS ((gen + 1) % 2) SC).flushE,gen,d.flushS.writeS ((gen + 1) % 2) SC)
      else (0,gen + 1,(d.flushS.writeS ((gen + 1) % 2) SC).flushS) := by rw [HCK1.out,hwe,if_neg (by simp)]
  have hp3 : (d.flushS.writeS ((gen + 1) % 2) SC).pend.length ≤ 1000000000 := by have := write_pend d.flushS ((gen + 1) % 2) SC;have := flush_pend d;omega
  generalize d.flushS.writeS ((gen + 1) % 2) SC = D at *
  clear hwe HCK1
  go_simp
  go_at_call 102
  (with_reducible refine (lmust_yes _).mono ?_)
  rintro e w9 ⟨rfl,rfl⟩
  refine hK _ _ (fun _ _ => ⟨rfl,Nat.le_refl _⟩) ?_
  clear hK K h1
  refine wpAnyE_end (by kernel_rfl) fun w10 h10 => ?_
  replace hS9 := Now.below hS9 h10
  clear h10
  have c0 : w10.cell? ⟨g,0,none⟩ = some (.pointer (some ⟨gd,0,none⟩)) := (Now.blk (pre:=[_]) hS9).cell 0
  have hfl := Loc.atZ (LFlush gd D hp3) [_,_,_,_,_] L hS9
  obtain ⟨e3,h3⟩ : ∃ e3,D.flushE = e3 := ⟨_,rfl⟩
  rw [h3] at hfl hck2
  have HCK2 := Lib.hid hck2
  clear hck2
  by_cases z3 : e3 = 0
  case neg =>
    have hfs : D.flushS = D := by
      unfold Dsk.flushS
      rw [if_pos]
      unfold Dsk.flushE at h3
      by_cases hd : D.dead = true
      · exact hd
      · rw [if_neg hd] at h3;exact absurd h3.symm z3
    have HFS := Lib.hid hfs
    clear h3 hfs
    go_wp2_with (first
      | (go_at_call 33;(with_reducible refine hfl.mono ?_);rintro e w11 ⟨rfl,hz,hS10⟩;clear hfl hS9 c0)
      | (go_at_call 102;(with_reducible refine (lmust_no _ z3 _).mono ?_);rintro e w12 ⟨rfl,rfl⟩))
    rw [HFS.out] at hS10
    exact lcaught_end (p := 4) rfl (pre:=[]) hS10 rfl rfl (fun w' h => by rw [HCK2.out,if_pos z3];exact ⟨rfl,Now.drop (pre:=[]) h⟩)
  subst z3
  clear h3
  go_wp2_with (first
    | (go_at_call 33;(with_reducible refine hfl.mono ?_);rintro e w11 ⟨rfl,hz,hS10⟩;clear hfl hS9 c0)
    | (go_at_call 102;(with_reducible refine (lmust_yes _).mono ?_);rintro e w12 ⟨rfl,rfl⟩;have hlog := Now.blk (pre:=[_]) hS10;have c8 : w11.cell? ⟨g,8,none⟩ = some (.int .u64 gen) := hlog.cell 8;have f8 := hlog.frozen 8;have heb := Now.blk (pre:=[]) hS10;have ce : w11.cell? ⟨w.heap.size,0,none⟩ = some (.int .i64 0) := heb.cell 0;have fe := heb.frozen 0))
  have hS11 := Now.set_ (pre:=[]) (Now.set_ (pre:=[_]) hS10 8 (.int .u64 (gen + 1))) 0 (.int .i64 0)
  exact lcaught_fine (p := 4) rfl (pre:=[]) hS11 rfl rfl (fun w' h => by rw [HCK2.out,if_neg (by simp)];exact ⟨rfl,Now.drop (pre:=[]) h⟩)
end Go.Proofs.YtidacaihmjdmkaaGreat
