/- What the laws of this seat lean on, part 15. -/
import Derived.Test.YtidacaihmjdmkaaGreatZK12
set_option linter.unusedSimpArgs false
set_option linter.unusedVariables false
set_option maxRecDepth 100000
namespace Go.Proofs.YtidacaihmjdmkaaGreat
open Go.RowKit
attribute [local go_sem high] run_mx run_mn
def LSt.recOf (s : LSt) (epoch : Int) (rc : Rec) : Rec := { rc with lsn := s.lsn,epoch := epoch }
def LSt.put (s : LSt) (epoch : Int) (rc : Rec) : Int × Int × Int × LSt :=
  if s.d.writeE s.T.at_ (s.recOf epoch rc).sector = 0 then (0,s.T.open_,s.T.last,⟨s.T.count,s.lsn + 1,s.gen,s.d.writeS s.T.at_ (s.recOf epoch rc).sector⟩)
  else (s.d.writeE s.T.at_ (s.recOf epoch rc).sector,0,0,s)
def LSt.append (s : LSt) (epoch : Int) (rc : Rec) : Int × Int × Int × LSt :=
  if rc.kind = 3 ∨ (s.recOf epoch rc).right = false then (5,0,0,s)
  else if s.T.room = 0 then (10,0,0,s)
  else if s.T.last = s.T.slots then
    if (s.seal epoch).1 = 0 then (s.seal epoch).2.put epoch rc else ((s.seal epoch).1,0,0,(s.seal epoch).2)
  else s.put epoch rc
theorem acaught_end {fn : Func} {pl p : Tmp} {w1 : World} {R : Ending → World → Prop} {ql q : Nat} {x y1 y2 : Int} {a : Act} {S0 : Nat → Prop} {w0 : World} {pre mid post : List Thing} (hf : fn.results = #[.cell pl 90, .cell p 31])
    (h : Now S0 w0 w1 (pre ++ Thing.cells q 31 #[.int .i64 0] :: (mid ++ Thing.cells ql 90 #[.int .i64 y1, .int .i64 y2] :: post)))
    (hd : a.defers = [{ target := .fn (.func 96) #[],args := #[.pointer (some ⟨q,0,none⟩)] }]) (hp : a.tmps.getD p undef = .pointer (some ⟨q,0,none⟩)) (hpl : a.tmps.getD pl undef = .pointer (some ⟨ql,0,none⟩))
    (hR : ∀ w',Now S0 w0 w' (pre ++ Thing.cells q 31 #[.int .i64 x] :: (mid ++ Thing.cells ql 90 #[.int .i64 y1, .int .i64 y2] :: post)) → R (.returned (.tuple #[.agg #[.int .i64 y1, .int .i64 y2], .int .i64 x])) w') :
    bodyPostD Tryz.prog fn R (.panic [{ v := stopV x,recovered := false }]) a w1 := by
  obtain ⟨tmps,defers⟩ := a
  cases hd
  refine leaves_cons (f := 96) (args := #[.pointer (some ⟨q,0,none⟩)]) (by simp) (by simp [go_sem]) ?_
  refine (lcaught_bad q (.int .i64 0) x [] _ (Now.blk h)).mono ?_
  rintro en u' w'' ⟨rfl,rfl,rfl⟩
  have hz := (Now.set_ h 0 (.int .i64 x)).alloc (.cells #[.int .i64 x] 232)
  have ce : _ = some (Value.int .i64 x) := (Now.blk hz).cell 0
  have hl := Now.blk (pre:=pre ++ Thing.cells q 31 #[.int .i64 x] :: mid) (g := ql) (t := 90) (cs := #[.int .i64 y1, .int .i64 y2]) (post := post) (by simpa using hz)
  exact ⟨_,results_row_cell hf _ _ _ _ _ _ q _ hpl hp hl (by simp [go_sem,ce]) Tryz.underlying90 rfl (by kernel_rfl),hR _ hz⟩
theorem acaught_fine {fn : Func} {pl p : Tmp} {w1 : World} {R : Ending → World → Prop} {ql q : Nat} {x y1 y2 : Int} {a : Act} {S0 : Nat → Prop} {w0 : World} {pre mid post : List Thing} (hf : fn.results = #[.cell pl 90, .cell p 31])
    (h : Now S0 w0 w1 (pre ++ Thing.cells q 31 #[.int .i64 x] :: (mid ++ Thing.cells ql 90 #[.int .i64 y1, .int .i64 y2] :: post)))
    (hd : a.defers = [{ target := .fn (.func 96) #[],args := #[.pointer (some ⟨q,0,none⟩)] }]) (hp : a.tmps.getD p undef = .pointer (some ⟨q,0,none⟩)) (hpl : a.tmps.getD pl undef = .pointer (some ⟨ql,0,none⟩))
    (hR : ∀ w',Now S0 w0 w' (pre ++ Thing.cells q 31 #[.int .i64 x] :: (mid ++ Thing.cells ql 90 #[.int .i64 y1, .int .i64 y2] :: post)) → R (.returned (.tuple #[.agg #[.int .i64 y1, .int .i64 y2], .int .i64 x])) w') :
    bodyPostD Tryz.prog fn R .ret a w1 := by
  obtain ⟨tmps,defers⟩ := a
  cases hd
  refine leaves_cons (f := 96) (args := #[.pointer (some ⟨q,0,none⟩)]) (by simp) (by simp [go_sem]) ?_
  refine (lcaught_ok q _).mono ?_
  rintro en u' w'' ⟨rfl,rfl,rfl⟩
  have hz := h.alloc (.cells #[.int .i64 0] 232)
  have ce : _ = some (Value.int .i64 x) := (Now.blk hz).cell 0
  have hl := Now.blk (pre:=pre ++ Thing.cells q 31 #[.int .i64 x] :: mid) (g := ql) (t := 90) (cs := #[.int .i64 y1, .int .i64 y2]) (post := post) (by simpa using hz)
  exact ⟨_,results_row_cell hf _ _ _ _ _ _ q _ hpl hp hl (by simp [go_sem,ce]) Tryz.underlying90 rfl (by kernel_rfl),hR _ hz⟩
theorem app_end {fn : Func} {pl p : Tmp} {v : World} {R : Ending → World → Prop} {ql q : Nat} {x y1 y2 : Int} {a : Act} {S0 : Nat → Prop} {w0 : World} {post : List Thing} (hf : fn.results = #[.cell pl 90, .cell p 31])
    (h : Now S0 w0 v (Thing.cells q 31 #[.int .i64 x] :: Thing.cells ql 90 #[.int .i64 y1, .int .i64 y2] :: post))
    (hd : a.defers = []) (hp : a.tmps.getD p undef = .pointer (some ⟨q,0,none⟩)) (hpl : a.tmps.getD pl undef = .pointer (some ⟨ql,0,none⟩))
    (hR : Now S0 w0 v post → R (.returned (.tuple #[.agg #[.int .i64 y1, .int .i64 y2], .int .i64 x])) v) : bodyPostD Tryz.prog fn R .ret a v := by
  obtain ⟨tmps,defers⟩ := a
  cases hd
  have ce : v.cell? ⟨q,0,none⟩ = some (Value.int .i64 x) := (Now.blk (pre:=[]) h).cell 0
  exact ⟨_,results_row_cell hf _ _ _ _ _ _ q _ hpl hp (Now.blk (pre:=[_]) h) (by simp [go_sem,ce]) Tryz.underlying90 rfl (by kernel_rfl),hR (Now.drop (pre:=[]) (Now.drop (pre:=[]) h))⟩
set_option maxHeartbeats 8000000 in
theorem Append_form (s : LSt) (hs : s.Ok) (g gd : Nat) (epoch : Int) (he : 0 ≤ epoch ∧ epoch < 4294967296) (rc : Rec) (hF : (s.recOf epoch rc).Fits) (hbad : rc.kind = 3 ∨ (s.recOf epoch rc).right = false) (AO : Option Addr) (cO : Nat) (AL : Option Addr) (cL : Nat) (AF : Option Addr) (cF : Nat)
    {S0 : Nat → Prop} {w0 w : World} {L : List Thing} (hS : Now S0 w0 w (s.parts g gd epoch AO cO AL cL AF cF ++ L)) :
    Calls Tryz.prog 34 #[.pointer (some ⟨g,0,none⟩),rc.value] w fun e w' => e = .returned (.tuple #[.agg #[.int .i64 0, .int .i64 0], .int .i64 5]) ∧ Now S0 w0 w' (s.parts g gd epoch AO cO AL cL AF cF ++ L) := by
  have hRt := fun v => Right_any _ hF v
  unfold LSt.parts at *
  clear hF
  obtain ⟨T,lsn,gen,d⟩ := s
  obtain ⟨r0,r1,r2,r3,r4,r5,r6⟩ := rc
  have hgw : g < w.heap.size := (Now.blk (pre:=[]) hS).lt
  have hS1 := Now.pushCells (Now.pushCells (Now.pushCells hS 46 #[.int .u64 r0, .int .u32 r1, .int .i64 r2, .int .u64 r3, .int .u64 r4, .string r5, .string r6]) 90 #[.int .i64 0, .int .i64 0]) 31 #[.int .i64 0]
  simp only [World.size_alloc] at hS1
  unfold LSt.recOf at *
  unfold Rec.value at *
  dsimp only at *
  clear hS
  go_enter_defers Tryz.func34,Tryz.ntmps34
  go_wp2_with fail
  generalize ((w.alloc (.cells #[.int .u64 r0, .int .u32 r1, .int .i64 r2, .int .u64 r3, .int .u64 r4, .string r5, .string r6] 46)).alloc (.cells #[.int .i64 0, .int .i64 0] 90)).alloc (.cells #[.int .i64 0] 31) = wb at hS1 ⊢
  have hlog := Now.blk (pre:=[_,_,_]) hS1
  have HB : g < wb.drew.heap.size := hlog.lt
  have hcell : ∀ v,KeepG g wb.drew v → v.cell? ⟨g,6,none⟩ = some (.int .u64 lsn) ∧ v.cell? ⟨g,7,none⟩ = some (.int .u32 epoch) := fun v hv => by
    have hb1 := KeepG.blk (w := wb.drew) hv hlog
    exact ⟨hb1.cell 6,hb1.cell 7⟩
  have hS6 := hS1.drew
  clear hS1 hlog
  refine wp_region_takesN (KeepG.grow g) [] [(0,false),(1,false),(2,false),(3,false),(4,false),(5,false),(6,false),(7,false)] 4 (by kernel_rfl) (by kernel_rfl) rfl (by kernel_rfl) ?_
  iterate 8
    (apply wpTakes_take
     · exact rfl
     · intro w1v hR1
       (obtain ⟨c6,c7⟩ := hcell w1v hR1)
       go_simp
       first
         | with_reducible exact ⟨rfl,sqN _⟩
     simp only [Act.put,sqA,sqB,sqC])
  refine wpTakes_done ?_
  clear hcell HB
  generalize wb.drew = wc at hS6 ⊢
  apply wpAnyE_pure (KeepG.grow g) 8
  · kernel_rfl
  · intro _ _ d _ _ h;cases d <;> exact h
  · exact rfl
  · kernel_rfl
  · intro w1
    go_simp
    exact ⟨rfl,sqN _⟩
  try simp only [Act.put,sqA,sqB,sqC]
  refine wpAnyE_fork [9] (by kernel_rfl) (by simp) ?_
  refine sqM ?_
  refine ⟨_,rfl,?_⟩
  intro w1 h1 K hK
  replace hS6 := Now.below hS6 h1
  have hxb := Now.blk (pre:=[_,_]) hS6
  have ck : w1.cell? ⟨w.heap.size,0,none⟩ = some (.int .u64 r0) := hxb.cell 0
  have fk := hxb.frozen 0
  go_simp
  refine hK _ _ (fun _ _ => ⟨Below.heap_setCell w1 ⟨w.heap.size,0,none⟩ _ g (by show g ≠ w.heap.size;omega),by simp⟩) ?_
  replace hS6 := Now.set_ (pre:=[_,_]) hS6 0 (.int .u64 lsn)
  clear hK K hxb ck fk h1
  generalize w1.setCell ⟨w.heap.size,0,none⟩ (.int .u64 lsn) = v9 at hS6 ⊢
  clear w1
  apply wpAnyE_pure (KeepG.grow g) 10
  · kernel_rfl
  · intro _ _ d _ _ h;cases d <;> exact h
  · exact rfl
  · kernel_rfl
  · intro w1
    go_simp
    exact ⟨rfl,sqN _⟩
  try simp only [Act.put,sqA,sqB,sqC]
  refine wpAnyE_fork [11] (by kernel_rfl) (by simp) ?_
  refine sqM ?_
  refine ⟨_,rfl,?_⟩
  intro w1 h1 K hK
  replace hS6 := Now.below hS6 h1
  have hxb := Now.blk (pre:=[_,_]) hS6
  have ck : w1.cell? ⟨w.heap.size,1,none⟩ = some (.int .u32 r1) := hxb.cell 1
  have fk := hxb.frozen 1
  go_simp
  refine hK _ _ (fun _ _ => ⟨Below.heap_setCell w1 ⟨w.heap.size,1,none⟩ _ g (by show g ≠ w.heap.size;omega),by simp⟩) ?_
  replace hS6 := Now.set_ (pre:=[_,_]) hS6 1 (.int .u32 epoch)
  clear hK K hxb ck fk h1
  generalize w1.setCell ⟨w.heap.size,1,none⟩ (.int .u32 epoch) = v11 at hS6 ⊢
  clear w1
  refine wpAnyE_end (by kernel_rfl) fun w6 h6 => ?_
  refine post_intro ?_
  replace hS6 := Now.below hS6 h6
  clear h6
  have hrb := Now.blk (pre:=[_,_]) hS6
  have q0 : w6.cell? ⟨w.heap.size,0,none⟩ = some (.int .u64 lsn) := hrb.cell 0
  have q1 : w6.cell? ⟨w.heap.size,1,none⟩ = some (.int .u32 epoch) := hrb.cell 1
  have q2 : w6.cell? ⟨w.heap.size,2,none⟩ = some (.int .i64 r2) := hrb.cell 2
  have q3 : w6.cell? ⟨w.heap.size,3,none⟩ = some (.int .u64 r3) := hrb.cell 3
  have q4 : w6.cell? ⟨w.heap.size,4,none⟩ = some (.int .u64 r4) := hrb.cell 4
  have q5 : w6.cell? ⟨w.heap.size,5,none⟩ = some (.string r5) := hrb.cell 5
  have q6 : w6.cell? ⟨w.heap.size,6,none⟩ = some (.string r6) := hrb.cell 6
  clear hrb
  have hbx : ∀ v,Now S0 w0 v ([Thing.cells (w.heap.size + 1 + 1) 31 #[.int .i64 0],Thing.cells (w.heap.size + 1) 90 #[.int .i64 0, .int .i64 0]] ++ Thing.cells w.heap.size 46 #[.int .u64 lsn, .int .u32 epoch, .int .i64 r2, .int .u64 r3, .int .u64 r4, .string r5, .string r6] :: (logParts g gd T AO cO AL cL AF cF lsn epoch gen d ++ L)) →
      (v.cell? ⟨w.heap.size + 1,0,none⟩ = some (.int .i64 0) ∧ v.cell? ⟨w.heap.size + 1,1,none⟩ = some (.int .i64 0) ∧ v.cell? ⟨w.heap.size + 1 + 1,0,none⟩ = some (.int .i64 0)) ∧ (∀ k,v.frozen? ⟨w.heap.size + 1,k,none⟩ = false) ∧ (∀ k,v.frozen? ⟨w.heap.size + 1 + 1,k,none⟩ = false) := fun v h => by
    have h1 := Now.blk (pre:=[_]) h
    have h2 := Now.blk (pre:=[]) h
    exact ⟨⟨h1.cell 0,h1.cell 1,h2.cell 0⟩,fun k => h1.frozen k,fun k => h2.frozen k⟩
  have hset : ∀ v,Now S0 w0 v ([Thing.cells (w.heap.size + 1 + 1) 31 #[.int .i64 0],Thing.cells (w.heap.size + 1) 90 #[.int .i64 0, .int .i64 0]] ++ Thing.cells w.heap.size 46 #[.int .u64 lsn, .int .u32 epoch, .int .i64 r2, .int .u64 r3, .int .u64 r4, .string r5, .string r6] :: (logParts g gd T AO cO AL cL AF cF lsn epoch gen d ++ L)) →
      Now S0 w0 (((v.setCell ⟨w.heap.size + 1,0,none⟩ (.int .i64 0)).setCell ⟨w.heap.size + 1,1,none⟩ (.int .i64 0)).setCell ⟨w.heap.size + 1 + 1,0,none⟩ (.int .i64 5)) (Thing.cells (w.heap.size + 1 + 1) 31 #[.int .i64 5] :: Thing.cells (w.heap.size + 1) 90 #[.int .i64 0, .int .i64 0] :: Thing.cells w.heap.size 46 #[.int .u64 lsn, .int .u32 epoch, .int .i64 r2, .int .u64 r3, .int .u64 r4, .string r5, .string r6] :: (logParts g gd T AO cO AL cL AF cF lsn epoch gen d ++ L)) := fun v h =>
    Now.set_ (pre:=[]) (Now.set_ (pre:=[_]) (Now.set_ (pre:=[_]) h 0 (.int .i64 0)) 1 (.int .i64 0)) 0 (.int .i64 5)
  by_cases h3 : r2 = 3
  · subst h3
    obtain ⟨⟨l0,l1,e0⟩,fl,fe⟩ := hbx w6 hS6
    clear hbx
    go_wp2_with fail
    refine app_end (pl := 4) (p := 5) rfl (hset _ hS6) rfl rfl rfl ?_
    exact fun h => ⟨rfl,Now.drop (pre:=[]) h⟩
  · rw [hbad.resolve_left h3] at hRt
    go_wp2_with (go_at_call 94;(with_reducible refine (hRt _).mono ?_);rintro e w7 ⟨rfl,hB⟩;have hS7 := Now.below hS6 hB;obtain ⟨⟨l0,l1,e0⟩,fl,fe⟩ := hbx _ hS7;clear hS6 hB q0 q1 q2 q3 q4 q5 q6 hbx)
    refine app_end (pl := 4) (p := 5) rfl (hset _ hS7) rfl rfl rfl ?_
    exact fun h => ⟨rfl,Now.drop (pre:=[]) h⟩
set_option maxHeartbeats 8000000 in
theorem Append_full (s : LSt) (hs : s.Ok) (g gd : Nat) (epoch : Int) (he : 0 ≤ epoch ∧ epoch < 4294967296) (rc : Rec) (hF : (s.recOf epoch rc).Fits) (hk : rc.kind ≠ 3) (hR : (s.recOf epoch rc).right = true) (hroom : s.T.room = 0) (AO : Option Addr) (cO : Nat) (AL : Option Addr) (cL : Nat) (AF : Option Addr) (cF : Nat)
    {S0 : Nat → Prop} {w0 w : World} {L : List Thing} (hS : Now S0 w0 w (s.parts g gd epoch AO cO AL cL AF cF ++ L)) :
    Calls Tryz.prog 34 #[.pointer (some ⟨g,0,none⟩),rc.value] w fun e w' => e = .returned (.tuple #[.agg #[.int .i64 0, .int .i64 0], .int .i64 10]) ∧ Now S0 w0 w' (s.parts g gd epoch AO cO AL cL AF cF ++ L) := by
  have hRt := fun v => Right_any _ hF v
  rw [hR] at hRt
  have hRm := fun v B hB h => Room_tab s.T hs.t AO cO AL cL AF cF v B hB h
  rw [hroom] at hRm
  unfold LSt.parts at *
  clear hF hR hroom hs
  obtain ⟨T,lsn,gen,d⟩ := s
  obtain ⟨r0,r1,r2,r3,r4,r5,r6⟩ := rc
  have hgw : g < w.heap.size := (Now.blk (pre:=[]) hS).lt
  have hS1 := Now.pushCells (Now.pushCells (Now.pushCells hS 46 #[.int .u64 r0, .int .u32 r1, .int .i64 r2, .int .u64 r3, .int .u64 r4, .string r5, .string r6]) 90 #[.int .i64 0, .int .i64 0]) 31 #[.int .i64 0]
  simp only [World.size_alloc] at hS1
  unfold LSt.recOf at *
  unfold Rec.value at *
  dsimp only at *
  clear hS
  go_enter_defers Tryz.func34,Tryz.ntmps34
  go_wp2_with fail
  generalize ((w.alloc (.cells #[.int .u64 r0, .int .u32 r1, .int .i64 r2, .int .u64 r3, .int .u64 r4, .string r5, .string r6] 46)).alloc (.cells #[.int .i64 0, .int .i64 0] 90)).alloc (.cells #[.int .i64 0] 31) = wb at hS1 ⊢
  have hlog := Now.blk (pre:=[_,_,_]) hS1
  have HB : g < wb.drew.heap.size := hlog.lt
  have hcell : ∀ v,KeepG g wb.drew v → v.cell? ⟨g,6,none⟩ = some (.int .u64 lsn) ∧ v.cell? ⟨g,7,none⟩ = some (.int .u32 epoch) := fun v hv => by
    have hb1 := KeepG.blk (w := wb.drew) hv hlog
    exact ⟨hb1.cell 6,hb1.cell 7⟩
  have hS6 := hS1.drew
  clear hS1 hlog
  refine wp_region_takesN (KeepG.grow g) [] [(0,false),(1,false),(2,false),(3,false),(4,false),(5,false),(6,false),(7,false)] 4 (by kernel_rfl) (by kernel_rfl) rfl (by kernel_rfl) ?_
  iterate 8
    (apply wpTakes_take
     · exact rfl
     · intro w1v hR1
       (obtain ⟨c6,c7⟩ := hcell w1v hR1)
       go_simp
       first
         | with_reducible exact ⟨rfl,sqN _⟩
     simp only [Act.put,sqA,sqB,sqC])
  refine wpTakes_done ?_
  clear hcell HB
  generalize wb.drew = wc at hS6 ⊢
  apply wpAnyE_pure (KeepG.grow g) 8
  · kernel_rfl
  · intro _ _ d _ _ h;cases d <;> exact h
  · exact rfl
  · kernel_rfl
  · intro w1
    go_simp
    exact ⟨rfl,sqN _⟩
  try simp only [Act.put,sqA,sqB,sqC]
  refine wpAnyE_fork [9] (by kernel_rfl) (by simp) ?_
  refine sqM ?_
  refine ⟨_,rfl,?_⟩
  intro w1 h1 K hK
  replace hS6 := Now.below hS6 h1
  have hxb := Now.blk (pre:=[_,_]) hS6
  have ck : w1.cell? ⟨w.heap.size,0,none⟩ = some (.int .u64 r0) := hxb.cell 0
  have fk := hxb.frozen 0
  go_simp
  refine hK _ _ (fun _ _ => ⟨Below.heap_setCell w1 ⟨w.heap.size,0,none⟩ _ g (by show g ≠ w.heap.size;omega),by simp⟩) ?_
  replace hS6 := Now.set_ (pre:=[_,_]) hS6 0 (.int .u64 lsn)
  clear hK K hxb ck fk h1
  generalize w1.setCell ⟨w.heap.size,0,none⟩ (.int .u64 lsn) = v9 at hS6 ⊢
  clear w1
  apply wpAnyE_pure (KeepG.grow g) 10
  · kernel_rfl
  · intro _ _ d _ _ h;cases d <;> exact h
  · exact rfl
  · kernel_rfl
  · intro w1
    go_simp
    exact ⟨rfl,sqN _⟩
  try simp only [Act.put,sqA,sqB,sqC]
  refine wpAnyE_fork [11] (by kernel_rfl) (by simp) ?_
  refine sqM ?_
  refine ⟨_,rfl,?_⟩
  intro w1 h1 K hK
  replace hS6 := Now.below hS6 h1
  have hxb := Now.blk (pre:=[_,_]) hS6
  have ck : w1.cell? ⟨w.heap.size,1,none⟩ = some (.int .u32 r1) := hxb.cell 1
  have fk := hxb.frozen 1
  go_simp
  refine hK _ _ (fun _ _ => ⟨Below.heap_setCell w1 ⟨w.heap.size,1,none⟩ _ g (by show g ≠ w.heap.size;omega),by simp⟩) ?_
  replace hS6 := Now.set_ (pre:=[_,_]) hS6 1 (.int .u32 epoch)
  clear hK K hxb ck fk h1
  generalize w1.setCell ⟨w.heap.size,1,none⟩ (.int .u32 epoch) = v11 at hS6 ⊢
  clear w1
  refine wpAnyE_end (by kernel_rfl) fun w6 h6 => ?_
  refine post_intro ?_
  replace hS6 := Now.below hS6 h6
  clear h6
  have hrb := Now.blk (pre:=[_,_]) hS6
  have q0 : w6.cell? ⟨w.heap.size,0,none⟩ = some (.int .u64 lsn) := hrb.cell 0
  have q1 : w6.cell? ⟨w.heap.size,1,none⟩ = some (.int .u32 epoch) := hrb.cell 1
  have q2 : w6.cell? ⟨w.heap.size,2,none⟩ = some (.int .i64 r2) := hrb.cell 2
  have q3 : w6.cell? ⟨w.heap.size,3,none⟩ = some (.int .u64 r3) := hrb.cell 3
  have q4 : w6.cell? ⟨w.heap.size,4,none⟩ = some (.int .u64 r4) := hrb.cell 4
  have q5 : w6.cell? ⟨w.heap.size,5,none⟩ = some (.string r5) := hrb.cell 5
  have q6 : w6.cell? ⟨w.heap.size,6,none⟩ = some (.string r6) := hrb.cell 6
  clear hrb
  have hbx : ∀ v,Now S0 w0 v ([Thing.cells (w.heap.size + 1 + 1) 31 #[.int .i64 0],Thing.cells (w.heap.size + 1) 90 #[.int .i64 0, .int .i64 0]] ++ Thing.cells w.heap.size 46 #[.int .u64 lsn, .int .u32 epoch, .int .i64 r2, .int .u64 r3, .int .u64 r4, .string r5, .string r6] :: (logParts g gd T AO cO AL cL AF cF lsn epoch gen d ++ L)) →
      (v.cell? ⟨w.heap.size + 1,0,none⟩ = some (.int .i64 0) ∧ v.cell? ⟨w.heap.size + 1,1,none⟩ = some (.int .i64 0) ∧ v.cell? ⟨w.heap.size + 1 + 1,0,none⟩ = some (.int .i64 0)) ∧ (∀ k,v.frozen? ⟨w.heap.size + 1,k,none⟩ = false) ∧ (∀ k,v.frozen? ⟨w.heap.size + 1 + 1,k,none⟩ = false) := fun v h => by
    have h1 := Now.blk (pre:=[_]) h
    have h2 := Now.blk (pre:=[]) h
    exact ⟨⟨h1.cell 0,h1.cell 1,h2.cell 0⟩,fun k => h1.frozen k,fun k => h2.frozen k⟩
  have hset : ∀ v,Now S0 w0 v ([Thing.cells (w.heap.size + 1 + 1) 31 #[.int .i64 0],Thing.cells (w.heap.size + 1) 90 #[.int .i64 0, .int .i64 0]] ++ Thing.cells w.heap.size 46 #[.int .u64 lsn, .int .u32 epoch, .int .i64 r2, .int .u64 r3, .int .u64 r4, .string r5, .string r6] :: (logParts g gd T AO cO AL cL AF cF lsn epoch gen d ++ L)) →
      Now S0 w0 (((v.setCell ⟨w.heap.size + 1,0,none⟩ (.int .i64 0)).setCell ⟨w.heap.size + 1,1,none⟩ (.int .i64 0)).setCell ⟨w.heap.size + 1 + 1,0,none⟩ (.int .i64 10)) (Thing.cells (w.heap.size + 1 + 1) 31 #[.int .i64 10] :: Thing.cells (w.heap.size + 1) 90 #[.int .i64 0, .int .i64 0] :: Thing.cells w.heap.size 46 #[.int .u64 lsn, .int .u32 epoch, .int .i64 r2, .int .u64 r3, .int .u64 r4, .string r5, .string r6] :: (logParts g gd T AO cO AL cL AF cF lsn epoch gen d ++ L)) := fun v h =>
    Now.set_ (pre:=[]) (Now.set_ (pre:=[_]) (Now.set_ (pre:=[_]) h 0 (.int .i64 0)) 1 (.int .i64 0)) 0 (.int .i64 10)
  go_wp2_with (first
    | (go_at_call 94;(with_reducible refine (hRt _).mono ?_);rintro e w7 ⟨rfl,hB⟩;have hS7 := Now.below hS6 hB;have hlog := Now.blk (pre:=[_,_,_]) hS7;have c1 : w7.cell? _ = some (Value.int .i64 T.segs) := hlog.cell 1;have c2 : _ = some (Value.int .i64 T.slots) := hlog.cell 2;have c3 : _ = some (Value.slice AO T.order.length cO) := hlog.cell 3;have c4 : _ = some (Value.slice AL T.lens.length cL) := hlog.cell 4;have c5 : _ = some (Value.slice AF T.firsts.length cF) := hlog.cell 5;clear hRt hS6 hB q0 q1 q2 q3 q4 q5 q6 hlog)
    | (go_at_call 95;(with_reducible refine (hRm _ _ (Nat.le_refl _) (tabIn_of (pre:=[_,_,_,_]) hS7)).mono ?_);rintro e w8 ⟨rfl,hB⟩;have hS8 := Now.below hS7 hB;obtain ⟨⟨l0,l1,e0⟩,fl,fe⟩ := hbx _ hS8;clear hRm hS7 hB c1 c2 c3 c4 c5 hbx))
  refine app_end (pl := 4) (p := 5) rfl (hset _ hS8) rfl rfl rfl ?_
  exact fun h => ⟨rfl,Now.drop (pre:=[]) h⟩
def GotLog (S0 : Nat → Prop) (w0 w' : World) (s : LSt) (g gd : Nat) (epoch : Int) (L : List Thing) : Prop := ∃ A1 k1 A2 k2 A3 k3,Now S0 w0 w' (s.parts g gd epoch A1 k1 A2 k2 A3 k3 ++ L)
theorem put_write (s : LSt) (hs : s.Ok) (g gd : Nat) (epoch : Int) (rc : Rec) (hF : (s.recOf epoch rc).Fits) (hR : (s.recOf epoch rc).right = true) (AO : Option Addr) (cO : Nat) (AL : Option Addr) (cL : Nat) (AF : Option Addr) (cF : Nat)
    {S0 : Nat → Prop} {w0 w : World} {L : List Thing} (hS : Now S0 w0 w (logParts g gd s.T AO cO AL cL AF cF s.lsn epoch s.gen s.d ++ L)) (l0 e0 : Int) :
    Calls Tryz.prog 100 #[.pointer (some ⟨g,0,none⟩), .agg #[.int .u64 l0, .int .u32 e0, .int .i64 rc.kind, .int .u64 rc.ver, .int .u64 rc.dl, .string rc.id, .string rc.val]] w fun e w' =>
      (s.d.writeE s.T.at_ (s.recOf epoch rc).sector = 0 → e = .returned (.agg #[.int .i64 s.T.open_, .int .i64 s.T.last]) ∧ Now S0 w0 w' (logParts g gd s.T AO cO AL cL AF cF (s.lsn + 1) epoch s.gen (s.d.writeS s.T.at_ (s.recOf epoch rc).sector) ++ L)) ∧
      (∀ x,x ≠ 0 → s.d.writeE s.T.at_ (s.recOf epoch rc).sector = x → e = .panicked [{ v := stopV x,recovered := false }] ∧ Now S0 w0 w' (logParts g gd s.T AO cO AL cL AF cF s.lsn epoch s.gen s.d ++ L)) := by
  have h := write_any g gd s.T hs.t AO cO AL cL AF cF s.lsn epoch s.gen s.d (Nat.le_trans hs.pend (by decide)) ⟨l0,e0,rc.kind,rc.ver,rc.dl,rc.id,rc.val⟩ hF hR hS
  have hl := hs.lsn
  rw [s.T.len_open hs.t,IntWalk.u64_in (s.lsn + 1) (by omega)] at h
  exact h
set_option maxHeartbeats 8000000 in
theorem Append_put (s : LSt) (hs : s.Ok) (g gd : Nat) (epoch : Int) (he : 0 ≤ epoch ∧ epoch < 4294967296) (rc : Rec) (hF : (s.recOf epoch rc).Fits) (hk : rc.kind ≠ 3) (hR : (s.recOf epoch rc).right = true) (hroom : s.T.room ≠ 0) (hne : s.T.last ≠ s.T.slots) (AO : Option Addr) (cO : Nat) (AL : Option Addr) (cL : Nat) (AF : Option Addr) (cF : Nat)
    {S0 : Nat → Prop} {w0 w : World} {L : List Thing} (hS : Now S0 w0 w (s.parts g gd epoch AO cO AL cL AF cF ++ L)) :
    Calls Tryz.prog 34 #[.pointer (some ⟨g,0,none⟩),rc.value] w fun e w' => e = .returned (.tuple #[.agg #[.int .i64 (s.put epoch rc).2.1, .int .i64 (s.put epoch rc).2.2.1], .int .i64 (s.put epoch rc).1]) ∧ ∃ A1 k1 A2 k2 A3 k3,Now S0 w0 w' ((s.put epoch rc).2.2.2.parts g gd epoch A1 k1 A2 k2 A3 k3 ++ L) := by
  have hW := fun AO cO AL cL AF cF v (M : List Thing) (h : Now S0 w0 v (logParts g gd s.T AO cO AL cL AF cF s.lsn epoch s.gen s.d ++ M)) l0 e0 => put_write s hs g gd epoch rc hF hR AO cO AL cL AF cF h l0 e0
  have hC := fun AO cO AL cL AF cF v (h : TabIn v v.heap.size s.T AO AL AF) => Count_ok s.T hs.t AO cO AL cL AF cF v h (by have := hs.t.last;omega)
  unfold LSt.put
  obtain ⟨we,hwe⟩ : ∃ we,s.d.writeE s.T.at_ (s.recOf epoch rc).sector = we := ⟨_,rfl⟩
  obtain ⟨D,hD⟩ : ∃ D,s.d.writeS s.T.at_ (s.recOf epoch rc).sector = D := ⟨_,rfl⟩
  simp only [hwe,hD] at hW ⊢
  clear hwe hD
  have hmf : ∀ (fn : Fn) (first cap : Array Value) (w : World),(Instr.makeFunc fn first cap).run Tryz.prog w = .ok (.func fn first cap) w := fun _ _ _ _ => rfl
  have hRt := fun v => Right_any _ hF v
  rw [hR] at hRt
  have hRm := fun v B hB h => Room_tab s.T hs.t AO cO AL cL AF cF v B hB h
  obtain ⟨rm,hrm⟩ : ∃ rm,s.T.room = rm := ⟨_,rfl⟩
  rw [hrm] at hRm hroom
  have hT := hs.t
  have hlo := s.T.len_open hs.t
  unfold LSt.parts at *
  clear hrm
  obtain ⟨T,lsn,gen,d⟩ := s
  obtain ⟨r0,r1,r2,r3,r4,r5,r6⟩ := rc
  have hgw : g < w.heap.size := (Now.blk (pre:=[]) hS).lt
  have hS1 := Now.pushCells (Now.pushCells (Now.pushCells hS 46 #[.int .u64 r0, .int .u32 r1, .int .i64 r2, .int .u64 r3, .int .u64 r4, .string r5, .string r6]) 90 #[.int .i64 0, .int .i64 0]) 31 #[.int .i64 0]
  simp only [World.size_alloc] at hS1
  unfold LSt.recOf at *
  unfold Rec.value at *
  dsimp only at *
  clear hS
  go_enter_defers Tryz.func34,Tryz.ntmps34
  go_wp2_with fail
  generalize ((w.alloc (.cells #[.int .u64 r0, .int .u32 r1, .int .i64 r2, .int .u64 r3, .int .u64 r4, .string r5, .string r6] 46)).alloc (.cells #[.int .i64 0, .int .i64 0] 90)).alloc (.cells #[.int .i64 0] 31) = wb at hS1 ⊢
  have hlog := Now.blk (pre:=[_,_,_]) hS1
  have HB : g < wb.drew.heap.size := hlog.lt
  have hcell : ∀ v,KeepG g wb.drew v → v.cell? ⟨g,6,none⟩ = some (.int .u64 lsn) ∧ v.cell? ⟨g,7,none⟩ = some (.int .u32 epoch) := fun v hv => by
    have hb1 := KeepG.blk (w := wb.drew) hv hlog
    exact ⟨hb1.cell 6,hb1.cell 7⟩
  have hS6 := hS1.drew
  clear hS1 hlog
  refine wp_region_takesN (KeepG.grow g) [] [(0,false),(1,false),(2,false),(3,false),(4,false),(5,false),(6,false),(7,false)] 4 (by kernel_rfl) (by kernel_rfl) rfl (by kernel_rfl) ?_
  iterate 8
    (apply wpTakes_take
     · exact rfl
     · intro w1v hR1
       (obtain ⟨c6,c7⟩ := hcell w1v hR1)
       go_simp
       first
         | with_reducible exact ⟨rfl,sqN _⟩
     simp only [Act.put,sqA,sqB,sqC])
  refine wpTakes_done ?_
  clear hcell HB
  generalize wb.drew = wc at hS6 ⊢
  apply wpAnyE_pure (KeepG.grow g) 8
  · kernel_rfl
  · intro _ _ d _ _ h;cases d <;> exact h
  · exact rfl
  · kernel_rfl
  · intro w1
    go_simp
    exact ⟨rfl,sqN _⟩
  try simp only [Act.put,sqA,sqB,sqC]
  refine wpAnyE_fork [9] (by kernel_rfl) (by simp) ?_
  refine sqM ?_
  refine ⟨_,rfl,?_⟩
  intro w1 h1 K hK
  replace hS6 := Now.below hS6 h1
  have hxb := Now.blk (pre:=[_,_]) hS6
  have ck : w1.cell? ⟨w.heap.size,0,none⟩ = some (.int .u64 r0) := hxb.cell 0
  have fk := hxb.frozen 0
  go_simp
  refine hK _ _ (fun _ _ => ⟨Below.heap_setCell w1 ⟨w.heap.size,0,none⟩ _ g (by show g ≠ w.heap.size;omega),by simp⟩) ?_
  replace hS6 := Now.set_ (pre:=[_,_]) hS6 0 (.int .u64 lsn)
  clear hK K hxb ck fk h1
  generalize w1.setCell ⟨w.heap.size,0,none⟩ (.int .u64 lsn) = v9 at hS6 ⊢
  clear w1
  apply wpAnyE_pure (KeepG.grow g) 10
  · kernel_rfl
  · intro _ _ d _ _ h;cases d <;> exact h
  · exact rfl
  · kernel_rfl
  · intro w1
    go_simp
    exact ⟨rfl,sqN _⟩
  try simp only [Act.put,sqA,sqB,sqC]
  refine wpAnyE_fork [11] (by kernel_rfl) (by simp) ?_
  refine sqM ?_
  refine ⟨_,rfl,?_⟩
  intro w1 h1 K hK
  replace hS6 := Now.below hS6 h1
  have hxb := Now.blk (pre:=[_,_]) hS6
  have ck : w1.cell? ⟨w.heap.size,1,none⟩ = some (.int .u32 r1) := hxb.cell 1
  have fk := hxb.frozen 1
  go_simp
  refine hK _ _ (fun _ _ => ⟨Below.heap_setCell w1 ⟨w.heap.size,1,none⟩ _ g (by show g ≠ w.heap.size;omega),by simp⟩) ?_
  replace hS6 := Now.set_ (pre:=[_,_]) hS6 1 (.int .u32 epoch)
  clear hK K hxb ck fk h1
  generalize w1.setCell ⟨w.heap.size,1,none⟩ (.int .u32 epoch) = v11 at hS6 ⊢
  clear w1
  refine wpAnyE_end (by kernel_rfl) fun w6 h6 => ?_
  refine post_intro ?_
  replace hS6 := Now.below hS6 h6
  clear h6
  have hrb := Now.blk (pre:=[_,_]) hS6
  have q0 : w6.cell? ⟨w.heap.size,0,none⟩ = some (.int .u64 lsn) := hrb.cell 0
  have q1 : w6.cell? ⟨w.heap.size,1,none⟩ = some (.int .u32 epoch) := hrb.cell 1
  have q2 : w6.cell? ⟨w.heap.size,2,none⟩ = some (.int .i64 r2) := hrb.cell 2
  have q3 : w6.cell? ⟨w.heap.size,3,none⟩ = some (.int .u64 r3) := hrb.cell 3
  have q4 : w6.cell? ⟨w.heap.size,4,none⟩ = some (.int .u64 r4) := hrb.cell 4
  have q5 : w6.cell? ⟨w.heap.size,5,none⟩ = some (.string r5) := hrb.cell 5
  have q6 : w6.cell? ⟨w.heap.size,6,none⟩ = some (.string r6) := hrb.cell 6
  clear hrb
  go_wp2_with (first
    | (go_at_call 94;(with_reducible refine (hRt _).mono ?_);rintro e w7 ⟨rfl,hB⟩;have hS7 := Now.below hS6 hB;have hlog := Now.blk (pre:=[_,_,_]) hS7;have c1 : w7.cell? _ = some (Value.int .i64 T.segs) := hlog.cell 1;have c2 : _ = some (Value.int .i64 T.slots) := hlog.cell 2;have c3 : _ = some (Value.slice AO T.order.length cO) := hlog.cell 3;have c4 : _ = some (Value.slice AL T.lens.length cL) := hlog.cell 4;have c5 : _ = some (Value.slice AF T.firsts.length cF) := hlog.cell 5;clear hRt hS6 hB q0 q1 q2 q3 q4 q5 q6 hlog)
    | (go_at_call 95;(with_reducible refine (hRm _ _ (Nat.le_refl _) (tabIn_of (pre:=[_,_,_,_]) hS7)).mono ?_);rintro e w8 ⟨rfl,hB⟩;have hS8 := Now.below hS7 hB;clear hRm hS7 hB c1 c2 c3 c4 c5))
  have hlog := Now.blk (pre:=[_,_,_]) hS8
  have htab := tabIn_of (pre:=[_,_,_,_]) hS8
  have hop := fun v (hv : Newer w8.drew v) => open_any g gd T hT AO cO AL cL AF cF lsn epoch gen v (hlog.below hv.undrew hlog.lt) w8.heap.size (htab.below hv.undrew).o hv.size
  have hle := fun v (hv : Newer w8.drew v) => Len_tab T hT AO cO AL cL AF cF T.open_ v w8.heap.size hv.size (htab.below hv.undrew)
  have hcell : ∀ v,Newer w8.drew v → v.cell? ⟨g,1,none⟩ = some (.int .i64 T.segs) ∧ v.cell? ⟨g,2,none⟩ = some (.int .i64 T.slots) ∧ v.cell? ⟨g,3,none⟩ = some (.slice AO T.order.length cO) ∧ v.cell? ⟨g,4,none⟩ = some (.slice AL T.lens.length cL) ∧ v.cell? ⟨g,5,none⟩ = some (.slice AF T.firsts.length cF) := fun v hv => by
    have hb1 := hlog.below hv.undrew hlog.lt
    exact ⟨hb1.cell 1,hb1.cell 2,hb1.cell 3,hb1.cell 4,hb1.cell 5⟩
  rw [hlo] at hle
  have hS9 := hS8.drew
  clear hS8 hlog htab
  refine wp_region_ordN Newer.grow [(0,true),(1,true),(2,true),(3,true),(4,true),(5,true),(6,true),(7,true),(8,true),(9,true),(10,true),(11,true),(12,true)] [] (by kernel_rfl) (by kernel_rfl) rfl (by kernel_rfl) ?_
  iterate 13
    (apply wpOrd_take
     · exact rfl
     · intro w1 h1
       (obtain ⟨c1,c2,c3,c4,c5⟩ := hcell w1 h1)
       go_simp
       first
         | with_reducible exact ⟨rfl,sqN _⟩
         | with_reducible exact hop _ h1 | with_reducible exact hle _ h1
     simp only [Act.put,sqA,sqB,sqC])
  refine wpOrd_done fun w10 h10 => ?_
  refine post_intro ?_
  have hS10 := Now.below hS9 h10
  clear hS9 h10 hop hle hcell
  have hS11 := Now.perm hS10 (List.perm_append_comm_assoc [Thing.cells (w.heap.size + 1 + 1) 31 #[.int .i64 0],Thing.cells (w.heap.size + 1) 90 #[.int .i64 0, .int .i64 0],Thing.cells w.heap.size 46 #[.int .u64 lsn, .int .u32 epoch, .int .i64 r2, .int .u64 r3, .int .u64 r4, .string r5, .string r6]] (logParts g gd T AO cO AL cL AF cF lsn epoch gen d) L)
  have hrb := Now.blk (pre:=[_,_]) hS10
  have q0 : w10.cell? ⟨w.heap.size,0,none⟩ = some (.int .u64 lsn) := hrb.cell 0
  have q1 : w10.cell? ⟨w.heap.size,1,none⟩ = some (.int .u32 epoch) := hrb.cell 1
  have q2 : w10.cell? ⟨w.heap.size,2,none⟩ = some (.int .i64 r2) := hrb.cell 2
  have q3 : w10.cell? ⟨w.heap.size,3,none⟩ = some (.int .u64 r3) := hrb.cell 3
  have q4 : w10.cell? ⟨w.heap.size,4,none⟩ = some (.int .u64 r4) := hrb.cell 4
  have q5 : w10.cell? ⟨w.heap.size,5,none⟩ = some (.string r5) := hrb.cell 5
  have q6 : w10.cell? ⟨w.heap.size,6,none⟩ = some (.string r6) := hrb.cell 6
  clear hrb hS10
  by_cases hz : we = 0
  case neg =>
    have hw := ((hW AO cO AL cL AF cF _ _ hS11 lsn epoch).mono (R' := fun e w' => e = .panicked [{ v := stopV we,recovered := false }] ∧ Now S0 w0 w' (logParts g gd T AO cO AL cL AF cF lsn epoch gen d ++ ([Thing.cells (w.heap.size + 1 + 1) 31 #[.int .i64 0],Thing.cells (w.heap.size + 1) 90 #[.int .i64 0, .int .i64 0],Thing.cells w.heap.size 46 #[.int .u64 lsn, .int .u32 epoch, .int .i64 r2, .int .u64 r3, .int .u64 r4, .string r5, .string r6]] ++ L)) ) fun e w' h => h.2 we hz rfl)
    clear hW hC
    go_wp2_with (go_at_call 100;refine hw.mono ?_;rintro e w12 ⟨rfl,hS12⟩;clear hw)
    exact acaught_end (pl := 4) (p := 5) (pre:=[_,_,_,_,_]) (mid := []) rfl hS12 rfl rfl rfl fun w' h => ⟨rfl,AO,cO,AL,cL,AF,cF,Now.drop (pre:=[_,_,_,_,_]) (Now.drop (pre:=[_,_,_,_,_]) (Now.drop (pre:=[_,_,_,_,_]) h))⟩
  subst hz
  have hw := ((hW AO cO AL cL AF cF _ _ hS11 lsn epoch).mono (R' := fun e w' => e = .returned (.agg #[.int .i64 T.open_, .int .i64 T.last]) ∧ Now S0 w0 w' (logParts g gd T AO cO AL cL AF cF (lsn + 1) epoch gen D ++ ([Thing.cells (w.heap.size + 1 + 1) 31 #[.int .i64 0],Thing.cells (w.heap.size + 1) 90 #[.int .i64 0, .int .i64 0],Thing.cells w.heap.size 46 #[.int .u64 lsn, .int .u32 epoch, .int .i64 r2, .int .u64 r3, .int .u64 r4, .string r5, .string r6]] ++ L)) ) fun e w' h => h.1 rfl)
  clear hW
  go_wp2_with (first
    | (go_at_call 100;refine hw.mono ?_;rintro e w12 ⟨rfl,hS12⟩;have hS13 := Now.pushCells hS12 90 #[.int .i64 T.open_, .int .i64 T.last];have hlog := Now.blk (pre:=[_]) hS13;have htb := tabIn_of (pre:=[_,_]) hS13;have c1 : _ = some (Value.int .i64 T.segs) := hlog.cell 1;have c2 : _ = some (Value.int .i64 T.slots) := hlog.cell 2;have c3 : _ = some (Value.slice AO T.order.length cO) := hlog.cell 3;have c4 : _ = some (Value.slice AL T.lens.length cL) := hlog.cell 4;have c5 : _ = some (Value.slice AF T.firsts.length cF) := hlog.cell 5;have hg12 : g < w12.heap.size := (Now.blk (pre:=[]) hS12).lt;clear hw hS11 hS12 q0 q1 q2 q3 q4 q5 q6 hlog)
    | (go_at_call 101;refine (hC AO cO AL cL AF cF _ htb).mono ?_;rintro e w14 ⟨A1,k1,A2,k2,A3,k3,rfl,hO⟩;have hS15 := Now.pushCells (Now.pushAll hS13 hO) 64 (tabCells T.count A1 k1 A2 k2 A3 k3);have hlog := Now.blk (pre:=[_,_,_,_,_]) hS15;have b1 : _ = some (Value.int .i64 T.segs) := hlog.cell 1;have b2 : _ = some (Value.int .i64 T.slots) := hlog.cell 2;have b3 : _ = some (Value.slice AO T.order.length cO) := hlog.cell 3;have b4 : _ = some (Value.slice AL T.lens.length cL) := hlog.cell 4;have b5 : _ = some (Value.slice AF T.firsts.length cF) := hlog.cell 5;have fl := fun k => hlog.frozen k;have hob := Now.blk (pre:=[_,_,_,_]) hS15;have o0 : _ = some (Value.int .i64 T.open_) := hob.cell 0;have o1 : _ = some (Value.int .i64 T.last) := hob.cell 1;have hrl := Now.blk (pre:=[_,_,_,_,_,_,_,_,_,_,_]) hS15;have l0 : _ = some (Value.int .i64 0) := hrl.cell 0;have l1 : _ = some (Value.int .i64 0) := hrl.cell 1;have frl := fun k => hrl.frozen k;have hre := Now.blk (pre:=[_,_,_,_,_,_,_,_,_,_]) hS15;have e0 : _ = some (Value.int .i64 0) := hre.cell 0;have fre := fun k => hre.frozen k;have hne1 : g ≠ w12.heap.size := Nat.ne_of_lt hg12;have hne2 : w.heap.size + 1 ≠ g := (by omega);clear hC htb c1 c2 c3 c4 c5 hS13 hO hlog hob hrl hre)
    | (go_at_call 102;(with_reducible refine (lmust_yes _).mono ?_);rintro e w16 ⟨rfl,rfl⟩))
  have hS16 := Now.set_ (pre:=[_,_,_,_,_]) (Now.set_ (pre:=[_,_,_,_,_]) (Now.set_ (pre:=[_,_,_,_,_]) (Now.set_ (pre:=[_,_,_,_,_]) (Now.set_ (pre:=[_,_,_,_,_]) hS15 1 (.int .i64 T.count.segs)) 2 (.int .i64 T.count.slots)) 3 (.slice A1 T.count.order.length k1)) 4 (.slice A2 T.count.lens.length k2)) 5 (.slice A3 T.count.firsts.length k3)
  have hS17 := Now.set_ (pre:=[_,_,_,_,_,_,_,_,_,_]) (Now.set_ (pre:=[_,_,_,_,_,_,_,_,_,_,_]) (Now.set_ (pre:=[_,_,_,_,_,_,_,_,_,_,_]) hS16 0 (.int .i64 T.open_)) 1 (.int .i64 T.last)) 0 (.int .i64 0)
  exact acaught_fine (pl := 4) (p := 5) (pre:=[_,_,_,_,_,_,_,_,_,_]) (mid := []) rfl hS17 rfl rfl rfl fun w' h => ⟨rfl,A1,k1,A2,k2,A3,k3,Now.front (pre:=[_,_,_]) (Now.drop (pre:=[]) (Now.drop (pre:=[_,_,_,_]) (Now.drop (pre:=[_,_,_,_,_,_]) (Now.drop (pre:=[_,_,_,_,_,_]) (Now.drop (pre:=[_,_,_,_,_,_]) (Now.drop (pre:=[_,_,_,_,_,_,_,_,_,_]) (Now.drop (pre:=[_,_,_,_,_,_,_,_,_,_]) (Now.drop (pre:=[_,_,_,_,_,_,_,_,_,_]) h))))))))⟩
theorem recOf_fits {s s' : LSt} {epoch : Int} {rc : Rec} (h : (s.recOf epoch rc).Fits) (hs : s'.Ok) : (s'.recOf epoch rc).Fits := by
  have hl := hs.lsn
  obtain ⟨h1,h2,h3,h4,h5,h6,h7⟩ := h
  exact ⟨by show 0 ≤ s'.lsn ∧ s'.lsn < 18446744073709551616;omega,h2,h3,h4,h5,h6,h7⟩
theorem recOf_right {s s' : LSt} {epoch : Int} {rc : Rec} (h : (s.recOf epoch rc).right = true) (hs : s.Ok) (hs' : s'.Ok) : (s'.recOf epoch rc).right = true := by
  have hl := hs.lsn
  have hl' := hs'.lsn
  have e1 : (s.lsn == 0) = false := beq_eq_false_iff_ne.2 (by omega)
  have e2 : (s'.lsn == 0) = false := beq_eq_false_iff_ne.2 (by omega)
  unfold Rec.right LSt.recOf at *
  dsimp only at *
  rw [e1] at h
  rw [e2]
  exact h
theorem seal_ok {s : LSt} (hs : s.Ok) (epoch : Int) (hl : s.lsn + 1 < 1000000) (hp : s.d.pend.length + 1 ≤ 100000) : (s.seal epoch).2.Ok := by
  unfold LSt.seal
  split
  · exact hs
  · rename_i f l hf
    have hN := hs.t.segsN
    split
    · have hm := (freeTo_mem s.T s.T.segs.toNat f).1 (by rw [hf];simp)
      have hb := hs.lsn
      refine ⟨s.T.roll_ok hs.t ⟨by omega,hm.2⟩ (by show 0 ≤ s.lsn + 1 ∧ s.lsn + 1 < 18446744073709551616;omega),by show 1 ≤ s.lsn + 1 ∧ s.lsn + 1 < 1000000;omega,hs.gen,?_⟩
      have := write_pend s.d s.T.at_ (footR s.lsn epoch f).sector
      show (s.d.writeS _ _).pend.length ≤ 100000
      omega
    · exact hs
theorem seal_last {s : LSt} {epoch : Int} (h : (s.seal epoch).1 = 0) : (s.seal epoch).2.T.last = 0 := by
  unfold LSt.seal at *
  split at h
  · exact absurd (show (10 : Int) = 0 from h) (by decide)
  · split at h
    · rename_i h0
      rw [if_pos h0]
      exact Tab.roll_last _ _ _
    · rename_i h0
      exact absurd h h0
set_option maxHeartbeats 8000000 in
theorem Append_roll (s : LSt) (hs : s.Ok) (g gd : Nat) (epoch : Int) (he : 0 ≤ epoch ∧ epoch < 4294967296) (rc : Rec) (hF : (s.recOf epoch rc).Fits) (hk : rc.kind ≠ 3) (hR : (s.recOf epoch rc).right = true) (hroom : s.T.room ≠ 0) (hne : s.T.last = s.T.slots) (hok : (s.seal epoch).2.Ok) (AO : Option Addr) (cO : Nat) (AL : Option Addr) (cL : Nat) (AF : Option Addr) (cF : Nat)
    {S0 : Nat → Prop} {w0 w : World} {L : List Thing} (hS : Now S0 w0 w (s.parts g gd epoch AO cO AL cL AF cF ++ L)) :
    Calls Tryz.prog 34 #[.pointer (some ⟨g,0,none⟩),rc.value] w fun e w' =>
      ((s.seal epoch).1 = 0 → e = .returned (.tuple #[.agg #[.int .i64 ((s.seal epoch).2.put epoch rc).2.1, .int .i64 ((s.seal epoch).2.put epoch rc).2.2.1], .int .i64 ((s.seal epoch).2.put epoch rc).1]) ∧ GotLog S0 w0 w' ((s.seal epoch).2.put epoch rc).2.2.2 g gd epoch L) ∧
      ((s.seal epoch).1 ≠ 0 → e = .returned (.tuple #[.agg #[.int .i64 0, .int .i64 0], .int .i64 (s.seal epoch).1]) ∧ GotLog S0 w0 w' (s.seal epoch).2 g gd epoch L) := by
  have hmf : ∀ (fn : Fn) (first cap : Array Value) (w : World),(Instr.makeFunc fn first cap).run Tryz.prog w = .ok (.func fn first cap) w := fun _ _ _ _ => rfl
  have hsl := fun h => seal_last (s := s) (epoch := epoch) h
  have hra := fun v (M : List Thing) (h : Now S0 w0 v (s.parts g gd epoch AO cO AL cL AF cF ++ M)) => roll_any s hs g gd epoch he AO cO AL cL AF cF h
  have hF' := recOf_fits hF hok
  have hR' := recOf_right hR hs hok
  generalize s.seal epoch = r at *
  obtain ⟨x,s'⟩ := r
  dsimp only at *
  have hW := fun AO cO AL cL AF cF v (M : List Thing) (h : Now S0 w0 v (logParts g gd s'.T AO cO AL cL AF cF s'.lsn epoch s'.gen s'.d ++ M)) l0 e0 => put_write s' hok g gd epoch rc hF' hR' AO cO AL cL AF cF h l0 e0
  have hC := fun (hx : x = 0) AO cO AL cL AF cF v (h : TabIn v v.heap.size s'.T AO AL AF) => Count_ok s'.T hok.t AO cO AL cL AF cF v h (by have := hok.t.slots;have := hsl hx;omega)
  unfold LSt.put
  obtain ⟨we,hwe⟩ : ∃ we,s'.d.writeE s'.T.at_ (s'.recOf epoch rc).sector = we := ⟨_,rfl⟩
  obtain ⟨D,hD⟩ : ∃ D,s'.d.writeS s'.T.at_ (s'.recOf epoch rc).sector = D := ⟨_,rfl⟩
  simp only [hwe,hD] at hW ⊢
  clear hwe hD hF' hR' hok hsl
  have hRt := fun v => Right_any _ hF v
  rw [hR] at hRt
  have hRm := fun v B hB h => Room_tab s.T hs.t AO cO AL cL AF cF v B hB h
  obtain ⟨rm,hrm⟩ : ∃ rm,s.T.room = rm := ⟨_,rfl⟩
  rw [hrm] at hRm hroom
  have hT := hs.t
  have hlo := s.T.len_open hs.t
  unfold LSt.parts at *
  clear hrm
  obtain ⟨T,lsn,gen,d⟩ := s
  obtain ⟨r0,r1,r2,r3,r4,r5,r6⟩ := rc
  have hgw : g < w.heap.size := (Now.blk (pre:=[]) hS).lt
  have hS1 := Now.pushCells (Now.pushCells (Now.pushCells hS 46 #[.int .u64 r0, .int .u32 r1, .int .i64 r2, .int .u64 r3, .int .u64 r4, .string r5, .string r6]) 90 #[.int .i64 0, .int .i64 0]) 31 #[.int .i64 0]
  simp only [World.size_alloc] at hS1
  unfold LSt.recOf at *
  unfold Rec.value at *
  dsimp only at *
  clear hS
  go_enter_defers Tryz.func34,Tryz.ntmps34
  go_wp2_with fail
  generalize ((w.alloc (.cells #[.int .u64 r0, .int .u32 r1, .int .i64 r2, .int .u64 r3, .int .u64 r4, .string r5, .string r6] 46)).alloc (.cells #[.int .i64 0, .int .i64 0] 90)).alloc (.cells #[.int .i64 0] 31) = wb at hS1 ⊢
  have hlog := Now.blk (pre:=[_,_,_]) hS1
  have HB : g < wb.drew.heap.size := hlog.lt
  have hcell : ∀ v,KeepG g wb.drew v → v.cell? ⟨g,6,none⟩ = some (.int .u64 lsn) ∧ v.cell? ⟨g,7,none⟩ = some (.int .u32 epoch) := fun v hv => by
    have hb1 := KeepG.blk (w := wb.drew) hv hlog
    exact ⟨hb1.cell 6,hb1.cell 7⟩
  have hS6 := hS1.drew
  clear hS1 hlog
  refine wp_region_takesN (KeepG.grow g) [] [(0,false),(1,false),(2,false),(3,false),(4,false),(5,false),(6,false),(7,false)] 4 (by kernel_rfl) (by kernel_rfl) rfl (by kernel_rfl) ?_
  iterate 8
    (apply wpTakes_take
     · exact rfl
     · intro w1v hR1
       (obtain ⟨c6,c7⟩ := hcell w1v hR1)
       go_simp
       first
         | with_reducible exact ⟨rfl,sqN _⟩
     simp only [Act.put,sqA,sqB,sqC])
  refine wpTakes_done ?_
  clear hcell HB
  generalize wb.drew = wc at hS6 ⊢
  apply wpAnyE_pure (KeepG.grow g) 8
  · kernel_rfl
  · intro _ _ d _ _ h;cases d <;> exact h
  · exact rfl
  · kernel_rfl
  · intro w1
    go_simp
    exact ⟨rfl,sqN _⟩
  try simp only [Act.put,sqA,sqB,sqC]
  refine wpAnyE_fork [9] (by kernel_rfl) (by simp) ?_
  refine sqM ?_
  refine ⟨_,rfl,?_⟩
  intro w1 h1 K hK
  replace hS6 := Now.below hS6 h1
  have hxb := Now.blk (pre:=[_,_]) hS6
  have ck : w1.cell? ⟨w.heap.size,0,none⟩ = some (.int .u64 r0) := hxb.cell 0
  have fk := hxb.frozen 0
  go_simp
  refine hK _ _ (fun _ _ => ⟨Below.heap_setCell w1 ⟨w.heap.size,0,none⟩ _ g (by show g ≠ w.heap.size;omega),by simp⟩) ?_
  replace hS6 := Now.set_ (pre:=[_,_]) hS6 0 (.int .u64 lsn)
  clear hK K hxb ck fk h1
  generalize w1.setCell ⟨w.heap.size,0,none⟩ (.int .u64 lsn) = v9 at hS6 ⊢
  clear w1
  apply wpAnyE_pure (KeepG.grow g) 10
  · kernel_rfl
  · intro _ _ d _ _ h;cases d <;> exact h
  · exact rfl
  · kernel_rfl
  · intro w1
    go_simp
    exact ⟨rfl,sqN _⟩
  try simp only [Act.put,sqA,sqB,sqC]
  refine wpAnyE_fork [11] (by kernel_rfl) (by simp) ?_
  refine sqM ?_
  refine ⟨_,rfl,?_⟩
  intro w1 h1 K hK
  replace hS6 := Now.below hS6 h1
  have hxb := Now.blk (pre:=[_,_]) hS6
  have ck : w1.cell? ⟨w.heap.size,1,none⟩ = some (.int .u32 r1) := hxb.cell 1
  have fk := hxb.frozen 1
  go_simp
  refine hK _ _ (fun _ _ => ⟨Below.heap_setCell w1 ⟨w.heap.size,1,none⟩ _ g (by show g ≠ w.heap.size;omega),by simp⟩) ?_
  replace hS6 := Now.set_ (pre:=[_,_]) hS6 1 (.int .u32 epoch)
  clear hK K hxb ck fk h1
  generalize w1.setCell ⟨w.heap.size,1,none⟩ (.int .u32 epoch) = v11 at hS6 ⊢
  clear w1
  refine wpAnyE_end (by kernel_rfl) fun w6 h6 => ?_
  refine post_intro ?_
  replace hS6 := Now.below hS6 h6
  clear h6
  have hrb := Now.blk (pre:=[_,_]) hS6
  have q0 : w6.cell? ⟨w.heap.size,0,none⟩ = some (.int .u64 lsn) := hrb.cell 0
  have q1 : w6.cell? ⟨w.heap.size,1,none⟩ = some (.int .u32 epoch) := hrb.cell 1
  have q2 : w6.cell? ⟨w.heap.size,2,none⟩ = some (.int .i64 r2) := hrb.cell 2
  have q3 : w6.cell? ⟨w.heap.size,3,none⟩ = some (.int .u64 r3) := hrb.cell 3
  have q4 : w6.cell? ⟨w.heap.size,4,none⟩ = some (.int .u64 r4) := hrb.cell 4
  have q5 : w6.cell? ⟨w.heap.size,5,none⟩ = some (.string r5) := hrb.cell 5
  have q6 : w6.cell? ⟨w.heap.size,6,none⟩ = some (.string r6) := hrb.cell 6
  clear hrb
  go_wp2_with (first
    | (go_at_call 94;(with_reducible refine (hRt _).mono ?_);rintro e w7 ⟨rfl,hB⟩;have hS7 := Now.below hS6 hB;have hlog := Now.blk (pre:=[_,_,_]) hS7;have c1 : w7.cell? _ = some (Value.int .i64 T.segs) := hlog.cell 1;have c2 : _ = some (Value.int .i64 T.slots) := hlog.cell 2;have c3 : _ = some (Value.slice AO T.order.length cO) := hlog.cell 3;have c4 : _ = some (Value.slice AL T.lens.length cL) := hlog.cell 4;have c5 : _ = some (Value.slice AF T.firsts.length cF) := hlog.cell 5;clear hRt hS6 hB q0 q1 q2 q3 q4 q5 q6 hlog)
    | (go_at_call 95;(with_reducible refine (hRm _ _ (Nat.le_refl _) (tabIn_of (pre:=[_,_,_,_]) hS7)).mono ?_);rintro e w8 ⟨rfl,hB⟩;have hS8 := Now.below hS7 hB;clear hRm hS7 hB c1 c2 c3 c4 c5))
  have hlog := Now.blk (pre:=[_,_,_]) hS8
  have htab := tabIn_of (pre:=[_,_,_,_]) hS8
  have hop := fun v (hv : Newer w8.drew v) => open_any g gd T hT AO cO AL cL AF cF lsn epoch gen v (hlog.below hv.undrew hlog.lt) w8.heap.size (htab.below hv.undrew).o hv.size
  have hle := fun v (hv : Newer w8.drew v) => Len_tab T hT AO cO AL cL AF cF T.open_ v w8.heap.size hv.size (htab.below hv.undrew)
  have hcell : ∀ v,Newer w8.drew v → v.cell? ⟨g,1,none⟩ = some (.int .i64 T.segs) ∧ v.cell? ⟨g,2,none⟩ = some (.int .i64 T.slots) ∧ v.cell? ⟨g,3,none⟩ = some (.slice AO T.order.length cO) ∧ v.cell? ⟨g,4,none⟩ = some (.slice AL T.lens.length cL) ∧ v.cell? ⟨g,5,none⟩ = some (.slice AF T.firsts.length cF) := fun v hv => by
    have hb1 := hlog.below hv.undrew hlog.lt
    exact ⟨hb1.cell 1,hb1.cell 2,hb1.cell 3,hb1.cell 4,hb1.cell 5⟩
  rw [hlo] at hle
  have hS9 := hS8.drew
  clear hS8 hlog htab
  refine wp_region_ordN Newer.grow [(0,true),(1,true),(2,true),(3,true),(4,true),(5,true),(6,true),(7,true),(8,true),(9,true),(10,true),(11,true),(12,true)] [] (by kernel_rfl) (by kernel_rfl) rfl (by kernel_rfl) ?_
  iterate 13
    (apply wpOrd_take
     · exact rfl
     · intro w1 h1
       (obtain ⟨c1,c2,c3,c4,c5⟩ := hcell w1 h1)
       go_simp
       first
         | with_reducible exact ⟨rfl,sqN _⟩
         | with_reducible exact hop _ h1 | with_reducible exact hle _ h1
     simp only [Act.put,sqA,sqB,sqC])
  refine wpOrd_done fun w10 h10 => ?_
  refine post_intro ?_
  have hS10 := Now.below hS9 h10
  clear hS9 h10 hop hle hcell
  obtain ⟨ln,hln⟩ : ∃ ln,ln = lsn := ⟨_,rfl⟩
  subst hln
  have hS11 := Now.perm hS10 (List.perm_append_comm_assoc [Thing.cells (w.heap.size + 1 + 1) 31 #[.int .i64 0],Thing.cells (w.heap.size + 1) 90 #[.int .i64 0, .int .i64 0],Thing.cells w.heap.size 46 #[.int .u64 ln, .int .u32 epoch, .int .i64 r2, .int .u64 r3, .int .u64 r4, .string r5, .string r6]] (logParts g gd T AO cO AL cL AF cF ln epoch gen d) L)
  replace hra := hra _ _ hS11
  clear hS10
  obtain ⟨T,lsn,gen,d⟩ := s'
  dsimp only at *
  by_cases hx : x = 0
  case neg =>
    replace hra := hra.mono (fun e w' h => h.2 x hx rfl)
    clear hW hC
    go_wp2_with (go_at_call 99;refine hra.mono ?_;rintro e w12 ⟨rfl,hS12⟩;clear hra)
    exact acaught_end (pl := 4) (p := 5) (pre:=[_,_,_,_,_]) (mid := []) rfl hS12 rfl rfl rfl fun w' h => ⟨rfl,AO,cO,AL,cL,AF,cF,Now.drop (pre:=[_,_,_,_,_]) (Now.drop (pre:=[_,_,_,_,_]) (Now.drop (pre:=[_,_,_,_,_]) h))⟩
  replace hra := hra.mono (fun e w' h => h.1 hx)
  replace hC := hC hx
  go_wp2_with (go_at_call 99;refine hra.mono ?_;rintro e w12 ⟨rfl,AO,cO,AL,cL,AF,cF,hS11⟩;have hrb := Now.blk (pre:=[_,_,_,_,_,_,_]) hS11;have q0 : w12.cell? ⟨w.heap.size,0,none⟩ = some (.int .u64 ln) := hrb.cell 0;have q1 : w12.cell? ⟨w.heap.size,1,none⟩ = some (.int .u32 epoch) := hrb.cell 1;have q2 : w12.cell? ⟨w.heap.size,2,none⟩ = some (.int .i64 r2) := hrb.cell 2;have q3 : w12.cell? ⟨w.heap.size,3,none⟩ = some (.int .u64 r3) := hrb.cell 3;have q4 : w12.cell? ⟨w.heap.size,4,none⟩ = some (.int .u64 r4) := hrb.cell 4;have q5 : w12.cell? ⟨w.heap.size,5,none⟩ = some (.string r5) := hrb.cell 5;have q6 : w12.cell? ⟨w.heap.size,6,none⟩ = some (.string r6) := hrb.cell 6;clear hra hrb)
  by_cases hz : we = 0
  case neg =>
    have hw := ((hW AO cO AL cL AF cF _ _ hS11 ln epoch).mono (R' := fun e w' => e = .panicked [{ v := stopV we,recovered := false }] ∧ Now S0 w0 w' (logParts g gd T AO cO AL cL AF cF lsn epoch gen d ++ ([Thing.cells (w.heap.size + 1 + 1) 31 #[.int .i64 0],Thing.cells (w.heap.size + 1) 90 #[.int .i64 0, .int .i64 0],Thing.cells w.heap.size 46 #[.int .u64 ln, .int .u32 epoch, .int .i64 r2, .int .u64 r3, .int .u64 r4, .string r5, .string r6]] ++ L)) ) fun e w' h => h.2 we hz rfl)
    clear hW hC
    go_wp2_with (go_at_call 100;refine hw.mono ?_;rintro e w12 ⟨rfl,hS12⟩;clear hw)
    exact acaught_end (pl := 4) (p := 5) (pre:=[_,_,_,_,_]) (mid := []) rfl hS12 rfl rfl rfl fun w' h => ⟨rfl,AO,cO,AL,cL,AF,cF,Now.drop (pre:=[_,_,_,_,_]) (Now.drop (pre:=[_,_,_,_,_]) (Now.drop (pre:=[_,_,_,_,_]) h))⟩
  subst hz
  have hw := ((hW AO cO AL cL AF cF _ _ hS11 ln epoch).mono (R' := fun e w' => e = .returned (.agg #[.int .i64 T.open_, .int .i64 T.last]) ∧ Now S0 w0 w' (logParts g gd T AO cO AL cL AF cF (lsn + 1) epoch gen D ++ ([Thing.cells (w.heap.size + 1 + 1) 31 #[.int .i64 0],Thing.cells (w.heap.size + 1) 90 #[.int .i64 0, .int .i64 0],Thing.cells w.heap.size 46 #[.int .u64 ln, .int .u32 epoch, .int .i64 r2, .int .u64 r3, .int .u64 r4, .string r5, .string r6]] ++ L)) ) fun e w' h => h.1 rfl)
  clear hW
  go_wp2_with (first
    | (go_at_call 100;refine hw.mono ?_;rintro e w12 ⟨rfl,hS12⟩;have hS13 := Now.pushCells hS12 90 #[.int .i64 T.open_, .int .i64 T.last];have hlog := Now.blk (pre:=[_]) hS13;have htb := tabIn_of (pre:=[_,_]) hS13;have c1 : _ = some (Value.int .i64 T.segs) := hlog.cell 1;have c2 : _ = some (Value.int .i64 T.slots) := hlog.cell 2;have c3 : _ = some (Value.slice AO T.order.length cO) := hlog.cell 3;have c4 : _ = some (Value.slice AL T.lens.length cL) := hlog.cell 4;have c5 : _ = some (Value.slice AF T.firsts.length cF) := hlog.cell 5;have hg12 : g < w12.heap.size := (Now.blk (pre:=[]) hS12).lt;clear hw hS11 hS12 q0 q1 q2 q3 q4 q5 q6 hlog)
    | (go_at_call 101;refine (hC AO cO AL cL AF cF _ htb).mono ?_;rintro e w14 ⟨A1,k1,A2,k2,A3,k3,rfl,hO⟩;have hS15 := Now.pushCells (Now.pushAll hS13 hO) 64 (tabCells T.count A1 k1 A2 k2 A3 k3);have hlog := Now.blk (pre:=[_,_,_,_,_]) hS15;have b1 : _ = some (Value.int .i64 T.segs) := hlog.cell 1;have b2 : _ = some (Value.int .i64 T.slots) := hlog.cell 2;have b3 : _ = some (Value.slice AO T.order.length cO) := hlog.cell 3;have b4 : _ = some (Value.slice AL T.lens.length cL) := hlog.cell 4;have b5 : _ = some (Value.slice AF T.firsts.length cF) := hlog.cell 5;have fl := fun k => hlog.frozen k;have hob := Now.blk (pre:=[_,_,_,_]) hS15;have o0 : _ = some (Value.int .i64 T.open_) := hob.cell 0;have o1 : _ = some (Value.int .i64 T.last) := hob.cell 1;have hrl := Now.blk (pre:=[_,_,_,_,_,_,_,_,_,_,_]) hS15;have l0 : _ = some (Value.int .i64 0) := hrl.cell 0;have l1 : _ = some (Value.int .i64 0) := hrl.cell 1;have frl := fun k => hrl.frozen k;have hre := Now.blk (pre:=[_,_,_,_,_,_,_,_,_,_]) hS15;have e0 : _ = some (Value.int .i64 0) := hre.cell 0;have fre := fun k => hre.frozen k;have hne1 : g ≠ w12.heap.size := Nat.ne_of_lt hg12;have hne2 : w.heap.size + 1 ≠ g := (by omega);clear hC htb c1 c2 c3 c4 c5 hS13 hO hlog hob hrl hre)
    | (go_at_call 102;(with_reducible refine (lmust_yes _).mono ?_);rintro e w16 ⟨rfl,rfl⟩))
  have hS16 := Now.set_ (pre:=[_,_,_,_,_]) (Now.set_ (pre:=[_,_,_,_,_]) (Now.set_ (pre:=[_,_,_,_,_]) (Now.set_ (pre:=[_,_,_,_,_]) (Now.set_ (pre:=[_,_,_,_,_]) hS15 1 (.int .i64 T.count.segs)) 2 (.int .i64 T.count.slots)) 3 (.slice A1 T.count.order.length k1)) 4 (.slice A2 T.count.lens.length k2)) 5 (.slice A3 T.count.firsts.length k3)
  have hS17 := Now.set_ (pre:=[_,_,_,_,_,_,_,_,_,_]) (Now.set_ (pre:=[_,_,_,_,_,_,_,_,_,_,_]) (Now.set_ (pre:=[_,_,_,_,_,_,_,_,_,_,_]) hS16 0 (.int .i64 T.open_)) 1 (.int .i64 T.last)) 0 (.int .i64 0)
  exact acaught_fine (pl := 4) (p := 5) (pre:=[_,_,_,_,_,_,_,_,_,_]) (mid := []) rfl hS17 rfl rfl rfl fun w' h => ⟨rfl,A1,k1,A2,k2,A3,k3,Now.front (pre:=[_,_,_]) (Now.drop (pre:=[]) (Now.drop (pre:=[_,_,_,_]) (Now.drop (pre:=[_,_,_,_,_,_]) (Now.drop (pre:=[_,_,_,_,_,_]) (Now.drop (pre:=[_,_,_,_,_,_]) (Now.drop (pre:=[_,_,_,_,_,_,_,_,_,_]) (Now.drop (pre:=[_,_,_,_,_,_,_,_,_,_]) (Now.drop (pre:=[_,_,_,_,_,_,_,_,_,_]) h))))))))⟩
theorem Append_any {epoch : Int} (s : LSt) (hs : s.Ok) (hok : (s.seal epoch).2.Ok) (g gd : Nat) (he : 0 ≤ epoch ∧ epoch < 4294967296) (rc : Rec) (hF : (s.recOf epoch rc).Fits) (AO : Option Addr) (cO : Nat) (AL : Option Addr) (cL : Nat) (AF : Option Addr) (cF : Nat)
    {S0 : Nat → Prop} {w0 w : World} {L : List Thing} (hS : Now S0 w0 w (s.parts g gd epoch AO cO AL cL AF cF ++ L)) :
    Calls Tryz.prog 34 #[.pointer (some ⟨g,0,none⟩),rc.value] w fun e w' => e = .returned (.tuple #[.agg #[.int .i64 (s.append epoch rc).2.1, .int .i64 (s.append epoch rc).2.2.1], .int .i64 (s.append epoch rc).1]) ∧ GotLog S0 w0 w' (s.append epoch rc).2.2.2 g gd epoch L := by
  unfold LSt.append
  by_cases h1 : rc.kind = 3 ∨ (s.recOf epoch rc).right = false
  · rw [if_pos h1]
    exact (Append_form s hs g gd epoch he rc hF h1 AO cO AL cL AF cF hS).mono fun e w' h => ⟨h.1,AO,cO,AL,cL,AF,cF,h.2⟩
  rw [if_neg h1]
  have hk : rc.kind ≠ 3 := fun h => h1 (.inl h)
  have hR : (s.recOf epoch rc).right = true := by
    cases h : (s.recOf epoch rc).right with
    | true => rfl
    | false => exact absurd (.inr h) h1
  by_cases h2 : s.T.room = 0
  · rw [if_pos h2]
    exact (Append_full s hs g gd epoch he rc hF hk hR h2 AO cO AL cL AF cF hS).mono fun e w' h => ⟨h.1,AO,cO,AL,cL,AF,cF,h.2⟩
  rw [if_neg h2]
  by_cases h3 : s.T.last = s.T.slots
  · rw [if_pos h3]
    refine (Append_roll s hs g gd epoch he rc hF hk hR h2 h3 hok AO cO AL cL AF cF hS).mono fun e w' h => ?_
    by_cases h4 : (s.seal epoch).1 = 0
    · rw [if_pos h4]
      exact h.1 h4
    · rw [if_neg h4]
      exact h.2 h4
  · rw [if_neg h3]
    exact Append_put s hs g gd epoch he rc hF hk hR h2 h3 AO cO AL cL AF cF hS
end Go.Proofs.YtidacaihmjdmkaaGreat
