/- What the laws of this seat lean on, part 9. -/
import Derived.Test.YtidacaihmjdmkaaGreatZK5
import Derived.Defers
import Derived.Recover
import Derived.Test.YtidacaihmjdmkaaGreatZK8
import Derived.Test.YtidacaihmjdmkaaGreatProg
import Derived.Test.YtidacaihmjdmkaaGreatZK1
import Derived.Test.YtidacaihmjdmkaaGreatZK3
import Derived.WalkKit
import Derived.Lib.Hide
import Derived.WalkLawsBesides
import Derived.WalkSpells
import Derived.Deep.QuietTactic
import Derived.BigQuiet
import Derived.StillTailTactics
import Derived.Deep.RegionHeld3
import Derived.RangeFuncNested
import Derived.RangeFuncBound
import Derived.RangeFuncCalls
import Derived.RangeFuncLeaves
import Derived.RangeFuncBox
import Derived.Shelf.Abstract
import Derived.Shelf.RegionOpen
import Derived.OwnWalkIn
import Derived.TacticsInMore
import Derived.LoopNIn
import Derived.LoopIn
set_option linter.unusedSimpArgs false
set_option linter.unusedVariables false
set_option maxRecDepth 100000
namespace Go.Proofs.YtidacaihmjdmkaaGreat
open Go.RowKit
section
variable {P : Program} {Q : Exit → Act → List Frame → World → Prop} {cs : List Frame} {ops : Array Oper}
theorem wpOpsS_of_wpOps (hL : ¬ LetsOut (fun e a w => Q e a cs w)) : ∀ (l : List Nat) (a : Act) (w : World),wpOps P ops (fun e a w => Q e a cs w) l a w → wpOpsS P ops Q l a cs w
  | [],_,_,h => h
  | i :: l,a,w,h => by
    unfold wpOps at h
    unfold wpOpsS
    cases hi : ops[i]? with
    | none =>
      simp only [hi] at h
      exact wpOpsS_of_wpOps hL l a w h
    | some o =>
      simp only [hi] at h ⊢
      split
      · rename_i hw
        simp only [hw,if_true] at h
        rcases h with h | h
        · unfold Oper.wp at h
          generalize (execOp a.eval o).run P w = r at *
          cases r with
          | ok n w' =>
            cases n <;> simp only [Oper.upon] at h ⊢ <;>
              first
                | exact wpOpsS_of_wpOps hL l _ _ h
                | exact Calls.mono h (fun e w'' he => by cases e <;> first | exact wpOpsS_of_wpOps hL l _ _ he | exact he)
                | exact Rows.mono h (fun v w'' he => wpOpsS_of_wpOps hL l _ _ he)
          | halt x w' => cases x <;> simp only [Oper.upon] at h ⊢ <;> first | exact h | exact h.elim
        · exact absurd h.2 hL
      · rename_i hw
        simp only [hw] at h
        exact wpOpsS_of_wpOps hL l _ _ h
theorem wpS_region_rec {id : Nat} {o : Oper} {l : List Oper} {cs' : List Frame} {a : Act} {w : World} {v : Value} (hg : o.guard = none) (ho : o.op = .call { callee := .builtin .recover,args := #[],argTypes := #[] })
    (hr : (match recoverD cs with | some p => p | none => (.nilIface,cs)) = (v,cs')) (hL : ¬ LetsOut (fun e a w => Q e a cs' w)) (h : wpList P (o :: l).toArray (fun e a w => Q e a cs' w) l (a.put o.dst v) w) : (Code.region id (o :: l).toArray false).wpS P Q a cs w := by
  apply wpS_region
  have hR : List.range (o :: l).toArray.size = 0 :: List.range' 1 l.length := by
    simp [List.range_eq_range',List.range'_succ]
  rw [hR]
  rw [← wpOps_eq_wpList (ops := (o :: l).toArray) l 1 (by intro j;simp [Nat.add_comm 1 j])] at h
  have hw : Region.wanted o (yielded (o :: l).toArray a.tmps) = true := by simp [Region.wanted,hg]
  have hrun : (execOp a.eval o).run P w = .ok .recover w := by
    unfold execOp
    simp [ho,resolve,invoke,builtin]
  unfold wpOpsS
  simp only [List.getElem?_toArray,List.getElem?_cons_zero,hw,if_true,hrun]
  cases hd : recoverD cs with
  | none =>
    simp only [hd] at hr ⊢
    cases hr
    exact wpOpsS_of_wpOps hL _ _ _ h
  | some p =>
    simp only [hd] at hr ⊢
    cases hr
    exact wpOpsS_of_wpOps hL _ _ _ h
end
end Go.Proofs.YtidacaihmjdmkaaGreat
namespace Go.Proofs.YtidacaihmjdmkaaGreat
open Go.RowKit
attribute [local go_sem high] run_mx run_mn
abbrev logCells (gd : Nat) (T : Tab) (AO : Option Addr) (cO : Nat) (AL : Option Addr) (cL : Nat) (AF : Option Addr) (cF : Nat) (lsn epoch gen : Int) : Array Value :=
  #[.pointer (some ⟨gd,0,none⟩), .int .i64 T.segs, .int .i64 T.slots, .slice AO T.order.length cO, .slice AL T.lens.length cL, .slice AF T.firsts.length cF, .int .u64 lsn, .int .u32 epoch, .int .u64 gen]
section
variable (g gd : Nat) (T : Tab) (AO : Option Addr) (cO : Nat) (AL : Option Addr) (cL : Nat) (AF : Option Addr) (cF : Nat) (lsn epoch gen : Int) (w : World) (h : Blk w g 175 (logCells gd T AO cO AL cL AF cF lsn epoch gen))
include h
theorem LSN_any : Calls Tryz.prog 43 #[.pointer (some ⟨g,0,none⟩)] w fun e w' => e = .returned (.int .u64 lsn) ∧ w = w' := by
  have c : w.cell? ⟨g,6,none⟩ = some (.int .u64 lsn) := h.cell 6
  go_enter Tryz.func43,Tryz.ntmps43
  go_wp2
  go_ret
  exact ⟨rfl,rfl⟩
theorem Epoch_any : Calls Tryz.prog 44 #[.pointer (some ⟨g,0,none⟩)] w fun e w' => e = .returned (.int .u32 epoch) ∧ w = w' := by
  have c : w.cell? ⟨g,7,none⟩ = some (.int .u32 epoch) := h.cell 7
  go_enter Tryz.func44,Tryz.ntmps44
  go_wp2
  go_ret
  exact ⟨rfl,rfl⟩
theorem Gen_any : Calls Tryz.prog 45 #[.pointer (some ⟨g,0,none⟩)] w fun e w' => e = .returned (.int .u64 gen) ∧ w = w' := by
  have c : w.cell? ⟨g,8,none⟩ = some (.int .u64 gen) := h.cell 8
  go_enter Tryz.func45,Tryz.ntmps45
  go_wp2
  go_ret
  exact ⟨rfl,rfl⟩
end
theorem At_any (gd : Nat) (T : Tab) (AO : Option Addr) (cO : Nat) (AL : Option Addr) (cL : Nat) (AF : Option Addr) (cF : Nat) (lsn epoch gen : Int) (w : World) :
    Calls Tryz.prog 92 #[.pointer (some ⟨gd,0,none⟩), .agg (tabCells T AO cO AL cL AF cF), .int .u64 lsn, .int .u32 epoch, .int .u64 gen] w fun e w' =>
      ∃ g,e = .returned (.pointer (some ⟨g,0,none⟩)) ∧ Sep w w' [Thing.cells g 175 (logCells gd T AO cO AL cL AF cF lsn epoch gen)] := by
  have hS := Now.drop (pre:=[_]) (Now.pushCells (Now.pushCells (Sep.start w) 64 (tabCells T AO cO AL cL AF cF)) 175 (logCells gd T AO cO AL cL AF cF lsn epoch gen))
  simp only [World.size_alloc] at hS
  replace hS := Lib.hid hS
  go_enter Tryz.func92,Tryz.ntmps92
  go_wp2
  go_ret
  exact ⟨_,rfl,hS.out⟩
abbrev stopV (e : Int) : Value := .iface 232 (.agg #[.int .i64 e])
theorem lmust_yes (w : World) : Calls Tryz.prog 102 #[.int .i64 0] w fun e w' => e = .returned (.tuple #[]) ∧ w = w' := by
  go_enter Tryz.func102,Tryz.ntmps102
  go_wp2
  go_end0
  exact ⟨rfl,rfl⟩
theorem lmust_no (x : Int) (hx : x ≠ 0) (w : World) : Calls Tryz.prog 102 #[.int .i64 x] w fun e w' => e = .panicked [{ v := stopV x,recovered := false }] ∧ w = w' := by
  have h1 : (x == 0) = false := beq_eq_false_iff_ne.2 hx
  go_enter Tryz.func102,Tryz.ntmps102
  go_wp2
  exact ⟨rfl,rfl,rfl⟩
theorem assert_stop (x : Int) (w : World) : (Instr.typeAssert (stopV x) 20 232 true).run Tryz.prog w = .ok (.tuple #[.agg #[.int .i64 x], .bool true]) w := by kernel_rfl
theorem assert_nostop (w : World) : (Instr.typeAssert .nilIface 20 232 true).run Tryz.prog w = .ok (.tuple #[.agg #[.int .i64 0], .bool false]) w := by kernel_rfl
theorem lcaught_bad (q : Nat) (v : Value) (x : Int) (older : List PanicEntry) (w : World) (he : Blk w q 31 #[v]) :
    CallsD Tryz.prog 96 #[.pointer (some ⟨q,0,none⟩)] (.panicking ({ v := stopV x,recovered := false } :: older)) w fun en u' w' =>
      en = .returned (.tuple #[]) ∧ u' = .panicking ({ v := stopV x,recovered := true } :: older) ∧ (w.setCell ⟨q,0,none⟩ (.int .i64 x)).alloc (.cells #[.int .i64 x] 232) = w' := by
  refine callsD_of_wpS Tryz.func96 rfl fun c₀ css hu => ?_
  simp only [Tryz.ntmps96,List.size_toArray,List.length_cons,List.length_nil,Nat.reduceAdd,Nat.reduceSub,Array.replicate_succ,Array.replicate_zero,List.push_toArray,List.append_toArray,List.nil_append,List.cons_append]
  have hlt := he.lt
  have he1 := he.alloc (.cells #[.int .i64 x] 232)
  have e0 := he1.cell 0
  have f1 := fun k => he1.frozen k
  apply wpS_seq
  refine wpS_region_rec rfl rfl (v := stopV x) (cs' := { c₀ with mode := .panicking ({ v := stopV x,recovered := true } :: older) } :: css) (by simp [recoverD,hu]) ?_ ?_
  · rintro ⟨a,w,h⟩
    obtain ⟨_,h,_⟩ := h
    cases h
  have ha := fun v => assert_stop x v
  go_wp2
  change Code.wpS _ _ _ _ _ _
  refine wpS_of_wp ?_
  go_wp2
  exact ⟨rfl,_,rfl,_,results_none rfl _ _ _,rfl,rfl,rfl⟩
theorem lcaught_ok (q : Nat) (w : World) :
    CallsD Tryz.prog 96 #[.pointer (some ⟨q,0,none⟩)] .returning w fun en u' w' =>
      en = .returned (.tuple #[]) ∧ u' = .returning ∧ w.alloc (.cells #[.int .i64 0] 232) = w' := by
  refine callsD_of_wpS Tryz.func96 rfl fun c₀ css hu => ?_
  simp only [Tryz.ntmps96,List.size_toArray,List.length_cons,List.length_nil,Nat.reduceAdd,Nat.reduceSub,Array.replicate_succ,Array.replicate_zero,List.push_toArray,List.append_toArray,List.nil_append,List.cons_append]
  apply wpS_seq
  refine wpS_region_rec rfl rfl (v := .nilIface) (cs' := c₀ :: css) (by simp [recoverD,hu]) ?_ ?_
  · rintro ⟨a,w,h⟩
    obtain ⟨_,h,_⟩ := h
    cases h
  have ha := fun v => assert_nostop v
  go_wp2
  change Code.wpS _ _ _ _ _ _
  refine wpS_of_wp ?_
  go_wp2
  exact ⟨rfl, .returning,by rw [← hu],_,results_none rfl _ _ _,rfl,rfl,rfl⟩
end Go.Proofs.YtidacaihmjdmkaaGreat
namespace Go.Proofs.YtidacaihmjdmkaaGreat
open Go.RowKit
attribute [local go_sem high] run_mx run_mn
def Tab.open_ (T : Tab) : Int := T.order[T.order.length - 1]?.getD 0
theorem open_any (g gd : Nat) (T : Tab) (hT : T.Ok) (AO : Option Addr) (cO : Nat) (AL : Option Addr) (cL : Nat) (AF : Option Addr) (cF : Nat) (lsn epoch gen : Int) (w : World) (h : Blk w g 175 (logCells gd T AO cO AL cL AF cF lsn epoch gen)) (B : Nat) (hr : Reads w B 1 AO T.order.length (ints T.order)) (hB : B ≤ w.heap.size) :
    Calls Tryz.prog 98 #[.pointer (some ⟨g,0,none⟩)] w fun e w' => e = .returned (.int .i64 T.open_) ∧ Newer w w' := by
  have hp := hT.pos
  have hmn := hT.many
  obtain ⟨x,hx⟩ : ∃ x,T.order[T.order.length - 1]? = some x := ⟨_,List.getElem?_eq_getElem (by omega)⟩
  obtain ⟨ad,rfl,hadB,hc⟩ := read_cell (k := T.order.length - 1) (u := .int .i64 x) hr (by omega) (by rw [List.getElem?_map,hx];rfl)
  have ho : T.open_ = x := by unfold Tab.open_;rw [hx];rfl
  rw [ho]
  obtain ⟨m,hm⟩ : ∃ m : Nat,T.order.length - 1 = m := ⟨_,rfl⟩
  rw [hm] at hc
  have hm1 : (m : Int) < (T.order.length : Int) := by omega
  have hm2 : IntKind.i64.wrap ((T.order.length : Int) - 1) = (m : Int) := by rw [IntWalk.i64_in _ (by omega)];omega
  have hcell : ∀ w1,Newer w.drew w1 → w1.cell? ⟨g,3,none⟩ = some (.slice (some ad) T.order.length cO) ∧ w1.cell? (ad.add m) = some (.int .i64 x) := fun w1 hw => by
    have hb1 := h.below hw.undrew h.lt
    exact ⟨hb1.cell 3,(hw.undrew.cell (by rw [block_of_add];omega)).trans hc⟩
  clear hx ho hm hT hr h hc hp
  go_enter Tryz.func98,Tryz.ntmps98
  go_wp2_with fail
  refine wp_region_ord Newer.grow [(0,true),(1,true),(2,true),(3,true),(4,true),(5,true),(6,true),(7,true),(8,true),(9,true),(10,true),(11,true),(12,true),(13,true),(14,true)] [] (by kernel_rfl) (by kernel_rfl) rfl (by kernel_rfl) (by intro _ _ d _ _ h;cases d <;> exact h) ?_
  iterate 15
    (apply wpOrd_take
     · exact rfl
     · intro w1 h1
       (obtain ⟨c0,c1⟩ := hcell w1 h1)
       go_simp
       first
         | with_reducible exact ⟨rfl,sqN _⟩
     simp only [Act.put,sqA,sqB,sqC])
  refine wpOrd_done fun w6 h6 => ?_
  go_wp2_with fail
  go_ret
  exact ⟨rfl,h6.undrew⟩
end Go.Proofs.YtidacaihmjdmkaaGreat
namespace Go.Proofs.YtidacaihmjdmkaaGreat
open Go.RowKit
attribute [local go_sem high] run_mx run_mn
theorem Now.pushMade {S0 : Nat → Prop} {w0 w w' : World} {L : List Thing} (h : Now S0 w0 w L) {t : TypeId} {n : Nat} {xs : List Value} {v : Value} (ho : w'.ownsRow w.heap.size t 1 v n xs) (hb : Below w.heap.size w w') : Now S0 w0 w' (Thing.row t 1 v n xs :: L) := by
  have ho0 : w'.ownsRow 0 t 1 v n xs := by
    refine ⟨ho.1,ho.2.imp id ?_⟩
    rintro ⟨g,cap,cur,h1,_,h2⟩
    exact ⟨g,cap,cur,h1,Nat.zero_le _,h2⟩
  refine h.push hb (S' := fun k => v.ownBlock = some k) ⟨ho0,fun k => Iff.rfl⟩ (fun k hk => ?_)
  rcases ho.2 with ⟨rfl,_⟩ | ⟨g,cap,cur,rfl,hg,_⟩
  · simp [Value.ownBlock] at hk
  · have : g = k := by simpa [Value.ownBlock] using hk
    omega
set_option maxHeartbeats 8000000 in
theorem Table_any (g gd : Nat) (T : Tab) (hT : T.Ok) (a1 : Addr) (cO : Nat) (a2 : Addr) (cL : Nat) (a3 : Addr) (cF : Nat) (lsn epoch gen : Int) (w : World) (h : Blk w g 175 (logCells gd T (some a1) cO (some a2) cL (some a3) cF lsn epoch gen)) (hr : TabIn w w.heap.size T (some a1) (some a2) (some a3)) :
    Calls Tryz.prog 47 #[.pointer (some ⟨g,0,none⟩)] w fun e w' => OwnTab w w' T e := by
  have hlen := hT.len
  have hfst := hT.fst
  have hmn := hT.many
  have hS0 := Now.pushCells (Now.pushCells (Sep.start w) 64 zeroTab) 64 (tabCells T (some a1) cO (some a2) cL (some a3) cF)
  simp only [World.size_alloc] at hS0
  have c1 : w.cell? ⟨g,1,none⟩ = some (.int .i64 T.segs) := h.cell 1
  have c2 : w.cell? ⟨g,2,none⟩ = some (.int .i64 T.slots) := h.cell 2
  have c3 : w.cell? ⟨g,3,none⟩ = some (.slice (some a1) T.order.length cO) := h.cell 3
  have c4 : w.cell? ⟨g,4,none⟩ = some (.slice (some a2) T.lens.length cL) := h.cell 4
  have c5 : w.cell? ⟨g,5,none⟩ = some (.slice (some a3) T.firsts.length cF) := h.cell 5
  have hlt := h.lt
  have HLEN := Lib.hid hlen
  have HFST := Lib.hid hfst
  have HR := Lib.hid hr
  have k1 := fun v (hv : Newer w v) => CloneI (some a1) T.order.length cO (ints T.order) v ((HR.out.below hv).more hv.size).o (by simp) (ints_one _) (by omega)
  have k2 := fun v (hv : Newer w v) => CloneI (some a2) T.lens.length cL (ints T.lens) v ((HR.out.below hv).more hv.size).l (by simp) (ints_one _) (by have := HLEN.out;omega)
  have k3 := fun v (hv : Newer w v) => CloneU (some a3) T.firsts.length cF (u64s T.firsts) v ((HR.out.below hv).more hv.size).f (by simp) (u64s_one _) (by have := HFST.out;omega)
  clear hT hlen hfst hr h
  go_enter Tryz.func47,Tryz.ntmps47
  go_wp2_with fail
  generalize (w.alloc (.cells zeroTab 64)).alloc (.cells (tabCells T (some a1) cO (some a2) cL (some a3) cF) 64) = wb at hS0 ⊢
  have hyb := Now.blk (pre:=[]) hS0
  have HB : w.heap.size + 1 < wb.drew.heap.size := hyb.lt
  have hcell : ∀ v,KeepG (w.heap.size + 1) wb.drew v → v.cell? ⟨w.heap.size + 1,2,none⟩ = some (.slice (some a1) T.order.length cO) ∧ v.cell? ⟨w.heap.size + 1,3,none⟩ = some (.slice (some a2) T.lens.length cL) ∧ v.cell? ⟨w.heap.size + 1,4,none⟩ = some (.slice (some a3) T.firsts.length cF) := fun v hv => by
    have hb1 := KeepG.blk (w := wb.drew) hv hyb
    exact ⟨hb1.cell 2,hb1.cell 3,hb1.cell 4⟩
  have hS := hS0.drew
  clear hS0 hyb c1 c2 c3 c4 c5
  refine wp_region_takesN (KeepG.grow (w.heap.size + 1)) [10,12,14] [(0,false),(1,false),(3,false),(4,false),(6,false),(7,false)] 9 (by kernel_rfl) (by kernel_rfl) rfl (by kernel_rfl) ?_
  iterate 6
    (apply wpTakes_take
     · exact rfl
     · intro w1v hR1
       (obtain ⟨d2,d3,d4⟩ := hcell w1v hR1)
       go_simp
       first
         | with_reducible exact ⟨rfl,sqN _⟩
     simp only [Act.put,sqA,sqB,sqC])
  refine wpTakes_done ?_
  clear hcell HB
  generalize wb.drew = wc at hS ⊢
  refine wpAnyE_fork [2] (by kernel_rfl) (by simp) ?_
  refine sqM ?_
  refine ⟨_,rfl,?_⟩
  intro w1 h1 K hK
  replace hS := Now.below hS h1
  go_simp
  go_at_call 105
  refine (k1 w1 (Sep.base hS)).mono ?_
  rintro e v1 ⟨A1,q1,rfl,ho,hb⟩
  refine hK _ _ (fun _ hlt => ⟨hb.block _ hlt,hb.size⟩) ?_
  replace hS := Now.pushMade hS ho hb
  clear hK K ho hb h1 k1 w1
  try simp only [Act.put,sqA,sqB,sqC]
  apply wpAnyE_pure (KeepG.grow (w.heap.size + 1)) 9
  · kernel_rfl
  · intro _ _ d _ _ h;cases d <;> exact h
  · exact rfl
  · kernel_rfl
  · intro w1
    go_simp
    exact ⟨rfl,sqN _⟩
  try simp only [Act.put,sqA,sqB,sqC]
  refine wpAnyE_fork [5] (by kernel_rfl) (by simp) ?_
  refine sqM ?_
  refine ⟨_,rfl,?_⟩
  intro w1 h1 K hK
  replace hS := Now.below hS h1
  go_simp
  go_at_call 105
  refine (k2 w1 (Sep.base hS)).mono ?_
  rintro e v2 ⟨A2,q2,rfl,ho,hb⟩
  refine hK _ _ (fun _ hlt => ⟨hb.block _ hlt,hb.size⟩) ?_
  replace hS := Now.pushMade hS ho hb
  clear hK K ho hb h1 k2 w1
  try simp only [Act.put,sqA,sqB,sqC]
  refine wpAnyE_fork [8] (by kernel_rfl) (by simp) ?_
  refine sqM ?_
  refine ⟨_,rfl,?_⟩
  intro w1 h1 K hK
  replace hS := Now.below hS h1
  go_simp
  go_at_call 106
  refine (k3 w1 (Sep.base hS)).mono ?_
  rintro e v3 ⟨A3,q3,rfl,ho,hb⟩
  refine hK _ _ (fun _ hlt => ⟨hb.block _ hlt,hb.size⟩) ?_
  replace hS := Now.pushMade hS ho hb
  clear hK K ho hb h1 k3 w1
  try simp only [Act.put,sqA,sqB,sqC]
  refine wpAnyE_fork [10] (by kernel_rfl) (by simp) ?_
  refine sqM ?_
  refine ⟨_,rfl,?_⟩
  intro w1 h1 K hK
  replace hS := Now.below hS h1
  have hyb := Now.blk (pre:=[_,_,_]) hS
  have d2 : _ = some (Value.slice (some a1) T.order.length cO) := hyb.cell 2
  have f2 := hyb.frozen 2
  go_simp
  refine hK _ _ (fun hn => absurd (by decide) hn) ?_
  replace hS := Now.set_ (pre:=[_,_,_]) hS 2 (.slice A1 T.order.length q1)
  clear hK K hyb d2 f2 h1
  generalize w1.setCell ⟨w.heap.size + 1,2,none⟩ (.slice A1 T.order.length q1) = v10 at hS ⊢
  clear w1
  apply wpAnyE_pure (KeepG.grow (w.heap.size + 1)) 11
  · kernel_rfl
  · intro _ _ d _ _ h;cases d <;> exact h
  · exact rfl
  · kernel_rfl
  · intro w1
    go_simp
    exact ⟨rfl,sqN _⟩
  try simp only [Act.put,sqA,sqB,sqC]
  refine wpAnyE_fork [12] (by kernel_rfl) (by simp) ?_
  refine sqM ?_
  refine ⟨_,rfl,?_⟩
  intro w1 h1 K hK
  replace hS := Now.below hS h1
  have hyb := Now.blk (pre:=[_,_,_]) hS
  have d2 : _ = some (Value.slice (some a2) T.lens.length cL) := hyb.cell 3
  have f2 := hyb.frozen 3
  go_simp
  refine hK _ _ (fun hn => absurd (by decide) hn) ?_
  replace hS := Now.set_ (pre:=[_,_,_]) hS 3 (.slice A2 T.lens.length q2)
  clear hK K hyb d2 f2 h1
  generalize w1.setCell ⟨w.heap.size + 1,3,none⟩ (.slice A2 T.lens.length q2) = v12 at hS ⊢
  clear w1
  apply wpAnyE_pure (KeepG.grow (w.heap.size + 1)) 13
  · kernel_rfl
  · intro _ _ d _ _ h;cases d <;> exact h
  · exact rfl
  · kernel_rfl
  · intro w1
    go_simp
    exact ⟨rfl,sqN _⟩
  try simp only [Act.put,sqA,sqB,sqC]
  refine wpAnyE_fork [14] (by kernel_rfl) (by simp) ?_
  refine sqM ?_
  refine ⟨_,rfl,?_⟩
  intro w1 h1 K hK
  replace hS := Now.below hS h1
  have hyb := Now.blk (pre:=[_,_,_]) hS
  have d2 : _ = some (Value.slice (some a3) T.firsts.length cF) := hyb.cell 4
  have f2 := hyb.frozen 4
  go_simp
  refine hK _ _ (fun hn => absurd (by decide) hn) ?_
  replace hS := Now.set_ (pre:=[_,_,_]) hS 4 (.slice A3 T.firsts.length q3)
  clear hK K hyb d2 f2 h1
  generalize w1.setCell ⟨w.heap.size + 1,4,none⟩ (.slice A3 T.firsts.length q3) = v14 at hS ⊢
  clear w1
  refine wpAnyE_end (by kernel_rfl) fun v8 h8 => ?_
  refine post_intro ?_
  replace hS := Now.below hS h8
  have hyb := Now.blk (pre:=[_,_,_]) hS
  have c0 : v8.cell? ⟨w.heap.size + 1,0,none⟩ = some (.int .i64 T.segs) := hyb.cell 0
  have c1 : v8.cell? ⟨w.heap.size + 1,1,none⟩ = some (.int .i64 T.slots) := hyb.cell 1
  have c2 : v8.cell? ⟨w.heap.size + 1,2,none⟩ = some (.slice A1 T.order.length q1) := hyb.cell 2
  have c3 : v8.cell? ⟨w.heap.size + 1,3,none⟩ = some (.slice A2 T.lens.length q2) := hyb.cell 3
  have c4 : v8.cell? ⟨w.heap.size + 1,4,none⟩ = some (.slice A3 T.firsts.length q3) := hyb.cell 4
  have hr := Now.blk (pre:=[_,_,_,_]) hS
  have f := fun k => hr.frozen k
  have r0 : v8.cell? ⟨w.heap.size,0,none⟩ = some (.int .i64 0) := hr.cell 0
  have r1 : v8.cell? ⟨w.heap.size,1,none⟩ = some (.int .i64 0) := hr.cell 1
  have r2 : v8.cell? ⟨w.heap.size,2,none⟩ = some (.slice none 0 0) := hr.cell 2
  have r3 : v8.cell? ⟨w.heap.size,3,none⟩ = some (.slice none 0 0) := hr.cell 3
  have r4 : v8.cell? ⟨w.heap.size,4,none⟩ = some (.slice none 0 0) := hr.cell 4
  have hS13 := Lib.hid (Now.set5 (pre:=[_,_,_,_]) hS (.int .i64 T.segs) (.int .i64 T.slots) (.slice A1 T.order.length q1) (.slice A2 T.lens.length q2) (.slice A3 T.firsts.length q3))
  clear hS hyb hr h8
  go_wp2_with fail
  refine bodyPost_ret (v := .agg (tabCells T A1 q1 A2 q2 A3 q3)) ?_ rfl ⟨_,_,_,_,_,_,rfl,?_⟩
  · exact results_cell_row rfl _ _ _ _ _ (0,0) _ (by simp) (Now.blk (pre:=[_,_,_,_]) hS13.out) Tryz.underlying64 rfl (by kernel_rfl)
  · exact Now.front (pre:=[_,_]) (Now.swap (Now.perm (Now.drop (pre:=[_,_,_]) (Now.drop (pre:=[_,_,_]) hS13.out)) (List.Perm.refl _)))
end Go.Proofs.YtidacaihmjdmkaaGreat
namespace Go.Proofs.YtidacaihmjdmkaaGreat
open Go.RowKit
attribute [local go_sem high] run_mx run_mn
structure Dsk where
  lim : Bool
  left : Int
  n : Int
  held : Int → Option ByteArray
  pend : List (Int × ByteArray)
def writeCells (p : Int × ByteArray) : List Value := [.int .i64 p.1, .string p.2]
def heldMap (held : Int → Option ByteArray) (k : Int) : Option Value := (held k).map fun s => .agg #[.int .i64 k, .string s]
structure DskAt (w : World) (g b : Nat) (v : Value) (d : Dsk) : Prop where
  blk : Blk w g 144 #[.bool d.lim, .int .i64 d.left, .int .i64 d.n, .map (some b),v]
  map : IMap w b (heldMap d.held)
  row : w.ownsRow 0 152 2 v d.pend.length (d.pend.flatMap writeCells)
  gv : v.ownBlock ≠ some g
  gb : g ≠ b
  bv : v.ownBlock ≠ some b
def foot (g b : Nat) (v : Value) (k : Nat) : Prop := k = g ∨ k = b ∨ v.ownBlock = some k
section
variable {w w' : World} {g b : Nat} {v : Value} {d : Dsk} {S : Nat → Prop}
theorem DskAt.cells (h : DskAt w g b v d) : (w.cell? ⟨g,0,none⟩ = some (.bool d.lim) ∧ w.cell? ⟨g,1,none⟩ = some (.int .i64 d.left) ∧ w.cell? ⟨g,2,none⟩ = some (.int .i64 d.n) ∧ w.cell? ⟨g,3,none⟩ = some (.map (some b)) ∧ w.cell? ⟨g,4,none⟩ = some v) := by
  refine ⟨?_,?_,?_,?_,?_⟩ <;> (rw [h.blk.cell];rfl)
theorem DskAt.free (h : DskAt w g b v d) (i : Nat) : w.frozen? ⟨g,i,none⟩ = false := h.blk.frozen i
theorem DskAt.lt (h : DskAt w g b v d) {k : Nat} (hk : foot g b v k) : k < w.heap.size := by
  rcases hk with rfl | rfl | hk
  · exact h.blk.lt
  · exact h.map.lt
  · exact (h.row.lt k hk).2
theorem DskAt.keep (h : DskAt w g b v d) (hf : Fr S w w') (hn : ∀ k,foot g b v k → ¬ S k) : DskAt w' g b v d :=
  ⟨hf.blk h.blk (hn g (.inl rfl)),h.map.fr hf (hn b (.inr (.inl rfl))),hf.own h.row fun k hk => hn k (.inr (.inr hk)),h.gv,h.gb,h.bv⟩
theorem DskAt.drew (h : DskAt w g b v d) : DskAt w.drew g b v d := ⟨h.blk,h.map,h.row,h.gv,h.gb,h.bv⟩
theorem DskAt.alloc (h : DskAt w g b v d) (o : Obj) : DskAt (w.alloc o) g b v d := h.keep (S := fun _ => False) ((Fr.refl _ w).alloc o) (fun _ _ h => h)
theorem DskAt.below (h : DskAt w g b v d) (hb : Below w.heap.size w w') : DskAt w' g b v d := h.keep (S := fun k => w.heap.size ≤ k) (Fr.of_below hb) (fun k hk hn => by have := h.lt hk;omega)
end
theorem DskAt.set {w : World} {g b : Nat} {v : Value} {d d' : Dsk} (h : DskAt w g b v d) (i : Nat) (u : Value) (hi : (#[.bool d.lim, .int .i64 d.left, .int .i64 d.n, .map (some b),v] : Array Value).setIfInBounds i u = #[.bool d'.lim, .int .i64 d'.left, .int .i64 d'.n, .map (some b),v]) (hh : d'.held = d.held) (hp : d'.pend = d.pend) :
    DskAt (w.setCell ⟨g,i,none⟩ u) g b v d' := by
  refine ⟨hi ▸ h.blk.set_ i u,by rw [hh];exact h.map.setCell (fun e => h.gb e.symm) u,?_,h.gv,h.gb,h.bv⟩
  rw [hp]
  exact Fr.own (S := fun k => k = g) ((Fr.refl (fun k => k = g) w).setCell (p := ⟨g,i,none⟩) (fun _ => rfl) u) h.row (fun k hk e => h.gv (by rw [hk,e]))
theorem New_bad (n : Int) (w : World) (h : n < 1 ∨ 4096 < n) :
    Calls Tryz.prog 21 #[.int .i64 n] w fun e w' => e = .returned (.tuple #[.pointer none, .int .i64 1]) ∧ w = w' := by
  have hmm := @run_makeMap Tryz.prog
  by_cases h1 : n < 1
  · go_enter Tryz.func21,Tryz.ntmps21
    go_wp2
    go_ret2
    exact ⟨rfl,rfl⟩
  · have h2 : 4096 < n := by omega
    go_enter Tryz.func21,Tryz.ntmps21
    go_wp2
    go_ret2
    exact ⟨rfl,rfl⟩
def newDsk (n : Int) : Dsk := ⟨false,0,n,fun _ => none,[]⟩
theorem New_ok (n : Int) (w : World) (h : 1 ≤ n) (h' : n ≤ 4096) :
    Calls Tryz.prog 21 #[.int .i64 n] w fun e w' => e = .returned (.tuple #[.pointer (some ⟨w.heap.size + 1,0,none⟩), .int .i64 0]) ∧ DskAt w' (w.heap.size + 1) w.heap.size (.slice none 0 0) (newDsk n) ∧ Below w.heap.size w w' := by
  have hmm := @run_makeMap Tryz.prog
  go_enter Tryz.func21,Tryz.ntmps21
  go_wp2
  go_ret2
  refine ⟨rfl,⟨?_,(IMap.new w).alloc _,World.ownsRow_nil ..,by simp [Value.ownBlock],by omega,by simp [Value.ownBlock]⟩,((Below.refl _ _).alloc (Nat.le_refl _) _).alloc (by simp) _⟩
  simpa [newDsk] using Blk.new (w.alloc (.map #[] 0)) 144 #[.bool false, .int .i64 0, .int .i64 n, .map (some w.heap.size), .slice none 0 0]
theorem Len_any (g b : Nat) (v : Value) (d : Dsk) (w : World) (h : DskAt w g b v d) :
    Calls Tryz.prog 75 #[.pointer (some ⟨g,0,none⟩)] w fun e w' => e = .returned (.int .i64 d.n) ∧ w = w' := by
  obtain ⟨c0,c1,c2,c3,c4⟩ := h.cells
  go_enter Tryz.func75,Tryz.ntmps75
  go_wp2
  go_ret
  exact ⟨rfl,rfl⟩
theorem Pending_any (g b : Nat) (v : Value) (d : Dsk) (w : World) (h : DskAt w g b v d) :
    Calls Tryz.prog 19 #[.pointer (some ⟨g,0,none⟩)] w fun e w' => e = .returned (.int .i64 d.pend.length) ∧ w = w' := by
  obtain ⟨c0,c1,c2,c3,c4⟩ := h.cells
  obtain ⟨A,c,rfl,_⟩ := own_slice2 h.row
  go_enter Tryz.func19,Tryz.ntmps19
  go_wp2
  go_ret
  exact ⟨rfl,rfl⟩
theorem Limit_any (g b : Nat) (v : Value) (d : Dsk) (n : Int) (w : World) (h : DskAt w g b v d) :
    Calls Tryz.prog 16 #[.pointer (some ⟨g,0,none⟩), .int .i64 n] w fun e w' => e = .returned (.tuple #[]) ∧ DskAt w' g b v { d with lim := true,left := n } ∧ Fr (foot g b v) w w' := by
  obtain ⟨c0,c1,c2,c3,c4⟩ := h.cells
  have f0 := h.free 0
  have f1 := h.free 1
  go_enter Tryz.func16,Tryz.ntmps16
  go_wp2
  go_end0
  exact ⟨rfl,(h.set (d' := { d with lim := true }) 0 _ rfl rfl rfl).set (d' := { d with lim := true,left := n }) 1 _ rfl rfl rfl,((Fr.refl _ w).setCell (fun _ => .inl rfl) _).setCell (fun _ => .inl rfl) _⟩
theorem has_any (g b : Nat) (v : Value) (d : Dsk) (i : Int) (w : World) (h : DskAt w g b v d) :
    Calls Tryz.prog 71 #[.pointer (some ⟨g,0,none⟩), .int .i64 i] w fun e w' => e = .returned (.bool (decide (0 ≤ i ∧ i < d.n))) ∧ w = w' := by
  obtain ⟨c0,c1,c2,c3,c4⟩ := h.cells
  by_cases h0 : 0 ≤ i
  · rw [show decide (0 ≤ i ∧ i < d.n) = decide (i < d.n) by simp [h0]]
    go_enter Tryz.func71,Tryz.ntmps71
    go_wp2
    go_ret
    exact ⟨rfl,rfl⟩
  · rw [show decide (0 ≤ i ∧ i < d.n) = false by simp [h0]]
    go_enter Tryz.func71,Tryz.ntmps71
    go_wp2
    go_ret
    exact ⟨rfl,rfl⟩
def Dsk.use (d : Dsk) : Dsk := { d with left := wrap64 (d.left - 1) }
theorem use_no (g b : Nat) (v : Value) (d : Dsk) (w : World) (h : DskAt w g b v d) (hl : d.lim = true) (hn : d.left < 1) :
    Calls Tryz.prog 72 #[.pointer (some ⟨g,0,none⟩)] w fun e w' => e = .returned (.bool false) ∧ w = w' := by
  obtain ⟨c0,c1,c2,c3,c4⟩ := h.cells
  rw [hl] at c0
  clear hl
  go_enter Tryz.func72,Tryz.ntmps72
  go_wp2
  go_ret
  exact ⟨rfl,rfl⟩
theorem use_yes (g b : Nat) (v : Value) (d : Dsk) (w : World) (h : DskAt w g b v d) (hl : d.lim = false ∨ 1 ≤ d.left) :
    Calls Tryz.prog 72 #[.pointer (some ⟨g,0,none⟩)] w fun e w' => e = .returned (.bool true) ∧ DskAt w' g b v d.use ∧ Fr (foot g b v) w w' := by
  obtain ⟨c0,c1,c2,c3,c4⟩ := h.cells
  have f1 := h.free 1
  have hfin : DskAt (w.setCell ⟨g,1,none⟩ (.int .i64 (wrap64 (d.left - 1)))) g b v d.use ∧ Fr (foot g b v) w (w.setCell ⟨g,1,none⟩ (.int .i64 (wrap64 (d.left - 1)))) :=
    ⟨h.set 1 _ rfl rfl rfl,(Fr.refl _ w).setCell (fun _ => .inl rfl) _⟩
  have H := Lib.hid hfin
  clear hfin h
  rcases Bool.eq_false_or_eq_true d.lim with hb | hb
  · have hl : 1 ≤ d.left := by rcases hl with h1 | h1;exact absurd (hb.symm.trans h1) (by simp);exact h1
    rw [hb] at c0
    clear hb
    go_enter Tryz.func72,Tryz.ntmps72
    go_wp2
    all_goals go_ret
    all_goals exact ⟨rfl,H.out⟩
  · rw [hb] at c0
    clear hb hl
    go_enter Tryz.func72,Tryz.ntmps72
    go_wp2
    all_goals go_ret
    all_goals exact ⟨rfl,H.out⟩
theorem infoWrite : (Tryz.prog.info? 152).map (fun i => (i.zero,i.size,i.bytes)) = some (some (.agg #[.int .i64 0, .string ByteArray.empty]),2,24) := by kernel_rfl
def Dsk.write (d : Dsk) (i : Int) (s : ByteArray) : Dsk := { d.use with pend := d.pend ++ [(i,s)] }
theorem Write_bad (g b : Nat) (v : Value) (d : Dsk) (i : Int) (s : ByteArray) (w : World) (h : DskAt w g b v d) (hi : ¬ (0 ≤ i ∧ i < d.n)) :
    Calls Tryz.prog 23 #[.pointer (some ⟨g,0,none⟩), .int .i64 i, .string s] w fun e w' => e = .returned (.int .i64 1) ∧ w = w' := by
  have hd : decide (0 ≤ i ∧ i < d.n) = false := by simpa using hi
  clear hi
  go_enter Tryz.func23,Tryz.ntmps23
  go_wp2_with (go_at_call 71;refine (has_any g b v d i _ h).mono ?_;rw [hd];rintro e w' ⟨rfl,rfl⟩)
  go_ret
  exact ⟨rfl,rfl⟩
theorem Write_form (g b : Nat) (v : Value) (d : Dsk) (i : Int) (s : ByteArray) (w : World) (h : DskAt w g b v d) (hi : 0 ≤ i ∧ i < d.n) (hs : s.size ≠ 128) :
    Calls Tryz.prog 23 #[.pointer (some ⟨g,0,none⟩), .int .i64 i, .string s] w fun e w' => e = .returned (.int .i64 5) ∧ w = w' := by
  have hd : decide (0 ≤ i ∧ i < d.n) = true := by simpa using hi
  clear hi
  have hs2 : ¬ (s.size : Int) = 128 := by omega
  go_enter Tryz.func23,Tryz.ntmps23
  go_wp2_with (go_at_call 71;refine (has_any g b v d i _ h).mono ?_;rw [hd];rintro e w' ⟨rfl,rfl⟩)
  go_ret
  exact ⟨rfl,rfl⟩
theorem Write_dead (g b : Nat) (v : Value) (d : Dsk) (i : Int) (s : ByteArray) (w : World) (h : DskAt w g b v d) (hi : 0 ≤ i ∧ i < d.n) (hs : s.size = 128) (hl : d.lim = true) (hn : d.left < 1) :
    Calls Tryz.prog 23 #[.pointer (some ⟨g,0,none⟩), .int .i64 i, .string s] w fun e w' => e = .returned (.int .i64 9) ∧ w = w' := by
  have hd : decide (0 ≤ i ∧ i < d.n) = true := by simpa using hi
  clear hi
  have hu := use_no g b v d w h hl hn
  obtain ⟨c0,c1,c2,c3,c4⟩ := h.cells
  have hs1 : (s.size : Int) ≤ 128 := by omega
  have hs2 : (128 : Int) ≤ s.size := by omega
  clear hl hs
  go_enter Tryz.func23,Tryz.ntmps23
  go_wp2_with (first | (go_at_call 71;refine (has_any g b v d i _ h).mono ?_;rw [hd];rintro e w' ⟨rfl,rfl⟩) | (go_at_call 72;refine hu.mono ?_;rintro e w' ⟨rfl,rfl⟩))
  go_ret
  exact ⟨rfl,rfl⟩
theorem DskAt.pushed {w w2 : World} {g b : Nat} {v v' : Value} {d : Dsk} {i : Int} {s : ByteArray} {o : Obj} (h : DskAt w g b v d) (hgrow : (w.alloc o).grownBy w2 v.ownBlock)
    (hown : w2.ownsRow 0 152 2 v' (d.pend.length + 1) (d.pend.flatMap writeCells ++ [.int .i64 i, .string s])) (hn : v'.ownBlock = v.ownBlock ∨ v'.ownBlock = some (w.alloc o).heap.size) :
    DskAt (w2.setCell ⟨g,4,none⟩ v') g b v' { d with pend := d.pend ++ [(i,s)] } ∧ Fr (foot g b v) w (w2.setCell ⟨g,4,none⟩ v') ∧ ∀ k,foot g b v' k → foot g b v k ∨ w.heap.size ≤ k := by
  have hg := h.blk.lt
  have hb := h.map.lt
  have hvg : v'.ownBlock ≠ some g := by
    rcases hn with hn | hn
    · rw [hn];exact h.gv
    · rw [hn];simp;omega
  have hvb : v'.ownBlock ≠ some b := by
    rcases hn with hn | hn
    · rw [hn];exact h.bv
    · rw [hn];simp;omega
  have hF : Fr (fun k => v.ownBlock = some k) w w2 := ((Fr.refl _ w).alloc o).trans (Fr.of_grown (S := fun k => v.ownBlock = some k) hgrow fun k e => e) (fun _ _ e => e)
  have hb2 := hF.blk h.blk h.gv
  refine ⟨⟨hb2.set_ 4 v',(h.map.fr hF h.bv).setCell (fun e => h.gb e.symm) _,?_,hvg,h.gb,hvb⟩,?_,fun k hk => ?_⟩
  · have := Fr.own (S := fun k => k = g) ((Fr.refl (fun k => k = g) w2).setCell (p := ⟨g,4,none⟩) (fun _ => rfl) v') hown (fun k hk e => hvg (by rw [hk,e]))
    simpa [List.flatMap_append,writeCells] using this
  · exact (hF.mono (fun k _ e => .inr (.inr e))).setCell (fun _ => .inl rfl) _
  · rcases hk with rfl | rfl | hk
    · exact .inl (.inl rfl)
    · exact .inl (.inr (.inl rfl))
    · rcases hn with hn | hn
      · exact .inl (.inr (.inr (hn ▸ hk)))
      · rw [hn] at hk
        simp at hk
        exact .inr (by omega)
theorem Write_ok (g b : Nat) (v : Value) (d : Dsk) (i : Int) (s : ByteArray) (w : World) (h : DskAt w g b v d) (hi : 0 ≤ i ∧ i < d.n) (hs : s.size = 128) (hl : d.lim = false ∨ 1 ≤ d.left) (hp : d.pend.length ≤ 1000000000) :
    Calls Tryz.prog 23 #[.pointer (some ⟨g,0,none⟩), .int .i64 i, .string s] w fun e w' => e = .returned (.int .i64 0) ∧
      ∃ v',DskAt w' g b v' (d.write i s) ∧ Fr (foot g b v) w w' ∧ ∀ k,foot g b v' k → foot g b v k ∨ w.heap.size ≤ k := by
  obtain ⟨i0,hi0,hz0,hz1,hz2⟩ := info_parts infoWrite
  have hd : decide (0 ≤ i ∧ i < d.n) = true := by simpa using hi
  clear hi
  have hu := use_yes g b v d w h hl
  obtain ⟨c0,c1,c2,c3,c4⟩ := h.cells
  have hs1 : (s.size : Int) ≤ 128 := by omega
  have hs2 : (128 : Int) ≤ s.size := by omega
  clear hl hs
  have hm1 : d.pend.length + 1 ≤ maxLen := by unfold maxLen;omega
  have hm2 : (d.pend.length + 1) * 24 ≤ 140737488355328 := by omega
  have hone : ∀ u ∈ [Value.int .i64 i, .string s],u.oneCell' = true := by simp [Value.oneCell']
  clear hp
  go_enter Tryz.func23,Tryz.ntmps23
  go_wp2_with (first | (go_at_call 71;refine (has_any g b v d i _ h).mono ?_;rw [hd];rintro e w' ⟨rfl,rfl⟩) | (go_at_call 72;refine hu.mono ?_;rintro e w1 ⟨rfl,h1,hf1⟩;obtain ⟨e0,e1,e2,e3,e4⟩ := h1.cells;clear c0 c1 c2 c3 c4 hu) | (at_builtin;refine wpList_append_any _ rfl _ _ 142 rfl 0 152 i0 _ 2 24 Tryz.underlying142 hi0 hz0 hz1 hz2 rfl (by decide) v _ _ rfl (h1.row.alloc _) (w1.heap.size + 1) _ 1 1 [.int .i64 i, .string s] rfl (Blk.readsN (Blk.new w1 152 #[.int .i64 i, .string s]) (by omega) rfl) hone hm1 hm2 (by omega) ?_;intro v' w2 hown hgrow hn;obtain ⟨A',c',rfl,_⟩ := own_slice2 hown;have hfin := h1.pushed hgrow hown hn;have hb2 := (Fr.of_grown (S := fun k => v.ownBlock = some k) hgrow (fun k e => e)).blk (h1.alloc (.cells #[.int .i64 i, .string s] 152)).blk h1.gv;have c4 : w2.cell? ⟨g,4,none⟩ = some v := hb2.cell 4;have f4 := hb2.frozen 4))
  go_ret
  exact ⟨rfl,_,hfin.1,hf1.trans hfin.2.1 (fun _ _ e => e),fun k hk => (hfin.2.2 k hk).imp id fun h => Nat.le_trans hf1.size h⟩
def upd (held : Int → Option ByteArray) (i : Int) (s : ByteArray) : Int → Option ByteArray := fun k => if k = i then some s else held k
theorem heldMap_upd (held : Int → Option ByteArray) (i : Int) (s : ByteArray) : (fun k => if k = i then some (.agg #[.int .i64 i, .string s]) else heldMap held k) = heldMap (upd held i s) := by
  funext k
  unfold heldMap upd
  by_cases h : k = i
  · subst h;simp
  · simp [h]
def Dsk.do_ (d : Dsk) (p : Int × ByteArray) : Dsk := { d with held := upd d.held p.1 p.2 }
set_option maxRecDepth 100000 in
theorem do_any (g b : Nat) (v : Value) (d : Dsk) (i : Int) (s : ByteArray) (w : World) (h : DskAt w g b v d) :
    Calls Tryz.prog 93 #[.pointer (some ⟨g,0,none⟩), .agg #[.int .i64 i, .string s]] w fun e w' => e = .returned (.tuple #[]) ∧ DskAt w' g b v (d.do_ (i,s)) ∧ Fr (foot g b v) w w' := by
  have h1 := h.alloc (.cells #[.int .i64 i, .string s] 152)
  have hb := Blk.new w 152 #[.int .i64 i, .string s]
  obtain ⟨c0,c1,c2,c3,c4⟩ := h1.cells
  have hg := h.blk.lt
  have hmb := h.map.lt
  have b0 : (w.alloc (.cells #[.int .i64 i, .string s] 152)).cell? ⟨w.heap.size,0,none⟩ = some (.int .i64 i) := hb.cell 0
  have b1 : (w.alloc (.cells #[.int .i64 i, .string s] 152)).cell? ⟨w.heap.size,1,none⟩ = some (.string s) := hb.cell 1
  obtain ⟨w3,hrun,hput⟩ := run_update_imap (P := Tryz.prog) (w := (w.alloc (.cells #[.int .i64 i, .string s] 152)).drew) (t := 141) (kt := 3) (et := 152) Tryz.underlying141 Tryz.underlying3 h1.map.drew i (.agg #[.int .i64 i, .string s])
  have k1 : w3.cell? ⟨g,3,none⟩ = some (.map (some b)) := hput.2.1.cell c3 (fun e => h.gb (by cases e;rfl))
  have k2 : w3.cell? ⟨w.heap.size,0,none⟩ = some (.int .i64 i) := hput.2.1.cell b0 (fun e => by simp at e;omega)
  have k3 : w3.cell? ⟨w.heap.size,1,none⟩ = some (.string s) := hput.2.1.cell b1 (fun e => by simp at e;omega)
  have hF : Fr (foot g b v) w w3 := ((Fr.refl _ w).alloc (.cells #[.int .i64 i, .string s] 152)).drew.trans (Fr.of_grown (S := fun k => k = b) hput.2.1 (fun k e => by cases e;rfl)) (fun k _ e => .inr (.inl e))
  have hF2 : Fr (fun k => k = b) w w3 := ((Fr.refl _ w).alloc (.cells #[.int .i64 i, .string s] 152)).drew.trans (Fr.of_grown (S := fun k => k = b) hput.2.1 (fun k e => by cases e;rfl)) (fun k _ e => e)
  have hD : DskAt w3 g b v (d.do_ (i,s)) := ⟨hF2.blk h.blk h.gb,by have := hput.1;rw [heldMap_upd] at this;exact this,hF2.own h.row (fun k hk e => h.bv (by rw [hk,e])),h.gv,h.gb,h.bv⟩
  clear h1 hput hF2 h hb
  go_enter Tryz.func93,Tryz.ntmps93
  go_wp2
  go_region_held3 (fun w' => w'.cell? ⟨g,3,none⟩ = some (.map (some b)) ∧ w'.cell? ⟨w.heap.size,0,none⟩ = some (.int .i64 i) ∧ w'.cell? ⟨w.heap.size,1,none⟩ = some (.string s)) (first | exact ⟨k1,k2,k3⟩ | go_keep) (fail)
  go_wp2
  go_end0
  exact ⟨rfl,hD,hF⟩
def zeros : ByteArray := ⟨Array.replicate 128 0⟩
def Dsk.holds (d : Dsk) (i : Int) : ByteArray := (d.held i).getD zeros
theorem holds_some (g b : Nat) (v : Value) (d : Dsk) (i : Int) (s : ByteArray) (w : World) (h : DskAt w g b v d) (hs : d.held i = some s) :
    Calls Tryz.prog 112 #[.pointer (some ⟨g,0,none⟩), .int .i64 i] w fun e w' => e = .returned (.string s) ∧ Below w.heap.size w w' := by
  obtain ⟨c0,c1,c2,c3,c4⟩ := h.cells
  have hz : (zeroValue 152).run Tryz.prog w = .ok (.agg #[.int .i64 0, .string ByteArray.empty]) w := by kernel_rfl
  have hlk := run_lookup_imap (P := Tryz.prog) (t := 141) (kt := 3) (et := 152) Tryz.underlying141 Tryz.underlying3 hz h.map i true
  simp only [heldMap,hs,Option.map_some,Option.getD_some,Option.isSome_some,if_true] at hlk
  clear hz hs
  go_enter Tryz.func112,Tryz.ntmps112
  go_wp2
  go_ret
  exact ⟨rfl,(Below.refl _ _).alloc (Nat.le_refl _) _⟩
theorem zeros_rep : (⟨(Lib.repeatL (ByteArray.mk #[0]).data.toList 128).toArray⟩ : ByteArray) = zeros := by decide +kernel
theorem Repeat_zero (w : World) : Calls Tryz.prog 153 #[.string (ByteArray.mk #[0]), .int .i64 128] w fun e w' => e = .returned (.string zeros) ∧ Below w.heap.size w w' := by
  have h := Tryz.strings_Repeat (ByteArray.mk #[0]) 128 w (by omega) (by decide)
  rw [zeros_rep] at h
  exact h
theorem holds_none (g b : Nat) (v : Value) (d : Dsk) (i : Int) (w : World) (h : DskAt w g b v d) (hs : d.held i = none) :
    Calls Tryz.prog 112 #[.pointer (some ⟨g,0,none⟩), .int .i64 i] w fun e w' => e = .returned (.string zeros) ∧ Below w.heap.size w w' := by
  obtain ⟨c0,c1,c2,c3,c4⟩ := h.cells
  have hz : (zeroValue 152).run Tryz.prog w = .ok (.agg #[.int .i64 0, .string ByteArray.empty]) w := by kernel_rfl
  have hlk := run_lookup_imap (P := Tryz.prog) (t := 141) (kt := 3) (et := 152) Tryz.underlying141 Tryz.underlying3 hz h.map i true
  simp only [heldMap,hs,Option.map_none,Option.getD_none,Option.isSome_none,if_true] at hlk
  clear hz hs
  have hrep := Repeat_zero (w.alloc (.cells #[.int .i64 0, .string ByteArray.empty] 152))
  go_enter Tryz.func112,Tryz.ntmps112
  go_wp2_with (go_at_call 153;refine hrep.mono ?_;rintro e w1 ⟨rfl,hb1⟩)
  go_ret
  exact ⟨rfl,((Below.refl _ _).alloc (Nat.le_refl _) _).trans (hb1.mono (by simp))⟩
theorem holds_any (g b : Nat) (v : Value) (d : Dsk) (i : Int) (w : World) (h : DskAt w g b v d) :
    Calls Tryz.prog 112 #[.pointer (some ⟨g,0,none⟩), .int .i64 i] w fun e w' => e = .returned (.string (d.holds i)) ∧ Below w.heap.size w w' := by
  unfold Dsk.holds
  cases hs : d.held i with
  | none => exact holds_none g b v d i w h hs
  | some s => exact holds_some g b v d i s w h hs
end Go.Proofs.YtidacaihmjdmkaaGreat
namespace Go.Proofs.YtidacaihmjdmkaaGreat
open Go.RowKit Go.Shelf
attribute [local go_sem] Oper.semAt_some
def backTo (zs : List (Int × ByteArray)) (k : Nat) : List (Nat × Int × ByteArray) := (List.range k).map fun j => (zs.length - 1 - j,zs[zs.length - 1 - j]?.getD (0,ByteArray.empty))
theorem backTo_succ (zs : List (Int × ByteArray)) (k : Nat) : backTo zs (k + 1) = backTo zs k ++ [(zs.length - 1 - k,zs[zs.length - 1 - k]?.getD (0,ByteArray.empty))] := by simp [backTo,List.range_succ]
theorem backTo_length (zs : List (Int × ByteArray)) (k : Nat) : (backTo zs k).length = k := by simp [backTo]
abbrev backEnc (x : Nat × Int × ByteArray) : Array Value := #[.int .i64 (x.1 : Int), .agg #[.int .i64 x.2.1, .string x.2.2]]
set_option maxRecDepth 100000 in
set_option maxHeartbeats 2000000 in
theorem back1_in (F : Fence) (n : Nat) (hf : F.fn 152) (hro : F.round = none) (hn : 1 ≤ n) (l Bs n₀ : Nat) (A : Option Addr) (cap : Nat) (zs : List (Int × ByteArray)) (hlen : zs.length ≤ 1000000000) (J Jx : List (Nat × Int × ByteArray) → World → Prop)
    (hY : ∀ pre x W,J pre W → pre.length < zs.length → YieldAt F (n - 1) Tryz.prog l (backEnc x) W fun e W' =>
      (e = .returned (.bool true) ∧ J (pre ++ [x]) W' ∧ Below n₀ W W') ∨ (e = .returned (.bool false) ∧ Jx (pre ++ [x]) W'))
    (W : World) (hBs : W.cell? ⟨Bs,0,none⟩ = some (.slice A zs.length cap)) (hBn : Bs < n₀)
    (hc : ∀ j,j < zs.length → ∃ ad,A = some ad ∧ (ad.add (j * 2)).block < n₀ ∧ W.cell? (ad.add (j * 2)) = some (.int .i64 (zs[j]?.getD (0,ByteArray.empty)).1) ∧ W.cell? ⟨(ad.add (j * 2)).block,(ad.add (j * 2)).off + 1,none⟩ = some (.string (zs[j]?.getD (0,ByteArray.empty)).2)) (h0 : J [] W) :
    CallsIn F n Tryz.prog 152 #[.func (.yield l) #[] #[], .pointer (some ⟨Bs,0,none⟩)] W fun e W' => (∃ v,e = .returned v) ∧
      ((∃ ys,ys = backTo zs zs.length ∧ J ys W') ∨ (∃ pre,(∃ k,k ≤ zs.length ∧ pre = backTo zs k) ∧ Jx pre W')) := by
  refine callsIn_of_wp Tryz.func152 rfl hf ?_ hro
  simp only [Tryz.ntmps152,List.size_toArray,List.length_cons,List.length_nil,Nat.reduceAdd,Nat.reduceSub,Array.replicate_succ,Array.replicate_zero,List.push_toArray,List.append_toArray,List.nil_append,List.cons_append]
  gi_wp2
  gi_loopw [3] (fun i wr => ∃ k : Nat,k ≤ zs.length ∧ i = .int .i64 ((zs.length : Int) - 1 - k) ∧ J (backTo zs k) wr ∧ Below n₀ W wr)
    (fun i _ => (intOf i + 1).toNat)
  case atStart => exact ⟨0,Nat.zero_le _,by simp,h0,Below.refl _ _⟩
  case round =>
    obtain ⟨k,hk,rfl,hJs,hnx⟩ := hrel
    have hBs' : wr.cell? ⟨Bs,0,none⟩ = some (.slice A zs.length cap) := (hnx.cell (p := ⟨Bs,0,none⟩) hBn).trans hBs
    by_cases hlt : k < zs.length
    · obtain ⟨ad,rfl,hb,c0,c1⟩ := hc (zs.length - 1 - k) (by omega)
      have d0 := (hnx.cell (p := ad.add ((zs.length - 1 - k) * 2)) hb).trans c0
      have d1 := (hnx.cell (p := ⟨(ad.add ((zs.length - 1 - k) * 2)).block,(ad.add ((zs.length - 1 - k) * 2)).off + 1,none⟩) hb).trans c1
      obtain ⟨fn,tmps,assign,body,hy,hR⟩ := hY _ (zs.length - 1 - k,zs[zs.length - 1 - k]?.getD (0,ByteArray.empty)) wr hJs (by rw [backTo_length];exact hlt)
      obtain ⟨q,hq⟩ : ∃ q : Nat,zs.length - 1 - k = q := ⟨_,rfl⟩
      have hqi : (zs.length : Int) - 1 - k = (q : Int) := by omega
      have hqs := backTo_succ zs k
      rw [hq] at d0 d1 hy hR hqs
      rw [hqi]
      generalize zs[q]?.getD (0,ByteArray.empty) = p at *
      have hq1 : (q : Int) < (zs.length : Int) := by omega
      have HQ := Lib.hid hqi
      have HS := Lib.hid hqs
      have HJ := Lib.hid hc
      clear hq hqi hqs hc c0 c1
      gi_wp2
      refine hR.mono ?_
      rintro e W3 (⟨rfl,hJ3,hk3⟩ | ⟨rfl,hJx3⟩)
      · gi_wp2
        go_roundw
        case rel => exact ⟨k + 1,by omega,by have := HQ.out;congr 1 <;> omega,by rw [HS.out];exact hJ3,hnx.trans hk3⟩
        case measure => have := HQ.out;simp [intOf]
      · gi_wp2
        refine bodyPost_ret (results_none rfl _ _ _) rfl ?_
        exact ⟨⟨_,rfl⟩, .inr ⟨_,⟨k + 1,by omega,HS.out.symm⟩,hJx3⟩⟩
    · obtain rfl : k = zs.length := by omega
      have hneg : (zs.length : Int) - 1 - (zs.length : Nat) = -1 := by omega
      rw [hneg]
      clear hneg
      gi_wp2
      go_end0
      exact ⟨⟨_,rfl⟩, .inl ⟨_,rfl,hJs⟩⟩
set_option maxHeartbeats 1000000 in
theorem back_in (F : Fence) (n : Nat) (hf : F.fn 111) (hro : F.round = none) (a : Option Addr) (len cap : Nat) (w : World) :
    CallsIn F n Tryz.prog 111 #[.slice a len cap] w fun e w' => e = .returned (.func (.func 152) #[] #[.pointer (some ⟨w.heap.size,0,none⟩)]) ∧ w.alloc (.cells #[.slice a len cap] 142) = w' := by
  refine callsIn_of_wp Tryz.func111 rfl hf ?_ hro
  simp only [Tryz.ntmps111,List.size_toArray,List.length_cons,List.length_nil,Nat.reduceAdd,Nat.reduceSub,Array.replicate_succ,Array.replicate_zero,List.push_toArray,List.append_toArray,List.nil_append,List.cons_append]
  gi_wp2
  go_ret
  exact ⟨rfl,rfl⟩
theorem back_stops (F : Fence) (n : Nat) (hf : F.fn 152) (hro : F.round = none) (hn : 1 ≤ n) (Bs n₀ : Nat) (A : Option Addr) (cap : Nat) (zs : List (Int × ByteArray)) (hlen : zs.length ≤ 1000000000) (w : World) (hBs : Bs < n₀) (hn₀ : n₀ ≤ w.heap.size)
    (hb : w.cell? ⟨Bs,0,none⟩ = some (.slice A zs.length cap))
    (hc : ∀ j,j < zs.length → ∃ ad,A = some ad ∧ (ad.add (j * 2)).block < n₀ ∧ w.cell? (ad.add (j * 2)) = some (.int .i64 (zs[j]?.getD (0,ByteArray.empty)).1) ∧ w.cell? ⟨(ad.add (j * 2)).block,(ad.add (j * 2)).off + 1,none⟩ = some (.string (zs[j]?.getD (0,ByteArray.empty)).2)) :
    SeqStopsK F n Tryz.prog 152 #[.pointer (some ⟨Bs,0,none⟩)] backEnc (Below n₀) (fun ys => ys = backTo zs zs.length) (fun pre => ∃ k,k ≤ zs.length ∧ pre = backTo zs k) zs.length w := fun l J Jx W hW _ _ hY h0 => by
  have hW' := hW.mono hn₀
  exact back1_in F n hf hro hn l Bs n₀ A cap zs hlen J Jx hY W ((hW'.cell (p := ⟨Bs,0,none⟩) hBs).trans hb) hBs (fun j hj => by
    obtain ⟨ad,e,h1,h2,h3⟩ := hc j hj
    exact ⟨ad,e,h1,(hW'.cell h1).trans h2,(hW'.cell (p := ⟨(ad.add (j * 2)).block,(ad.add (j * 2)).off + 1,none⟩) h1).trans h3⟩) h0
end Go.Proofs.YtidacaihmjdmkaaGreat
namespace Go.Proofs.YtidacaihmjdmkaaGreat
open Go.RowKit
attribute [local go_sem high] run_mx run_mn
theorem DskAt.at_ {w : World} {g b : Nat} {A : Option Addr} {n c : Nat} {d : Dsk} (h : DskAt w g b (.slice A n c) d) {k : Nat} {p : Int × ByteArray} (hp : d.pend[k]? = some p) :
    ∃ ad,A = some ad ∧ w.cell? (ad.add (k * 2)) = some (.int .i64 p.1) ∧ w.cell? ⟨(ad.add (k * 2)).block,(ad.add (k * 2)).off + 1,none⟩ = some (.string p.2) := by
  obtain ⟨A',c',e,hr⟩ := own_slice2 h.row
  cases e
  obtain ⟨hk,rfl⟩ := List.getElem?_eq_some_iff.1 hp
  obtain ⟨ad,rfl,hb,hc⟩ := hr.2 (by omega)
  have h0 : (d.pend.flatMap writeCells)[k * 2]? = some (.int .i64 d.pend[k].1) := by
    rw [getElem?_flatMap_row writeCells 2 (by omega) (fun _ => rfl),Nat.mul_div_cancel _ (by omega),Nat.mul_mod_left]
    simp [hk,writeCells]
  have h1 : (d.pend.flatMap writeCells)[k * 2 + 1]? = some (.string d.pend[k].2) := by
    rw [getElem?_flatMap_row writeCells 2 (by omega) (fun _ => rfl),Nat.add_comm,Nat.add_mul_div_right _ _ (by omega),Nat.add_mul_mod_self_right]
    simp [hk,writeCells]
  exact ⟨ad,rfl,hc _ _ h0,cell_off (by rw [add_of_add];exact hc _ _ h1)⟩
def Dsk.doAll (d : Dsk) (l : List (Int × ByteArray)) : Dsk := l.foldl Dsk.do_ d
theorem Dsk.doAll_pend (l : List (Int × ByteArray)) : ∀ d : Dsk,(d.doAll l).pend = d.pend ∧ (d.doAll l).n = d.n ∧ (d.doAll l).lim = d.lim ∧ (d.doAll l).left = d.left := by
  induction l with
  | nil => intro d;exact ⟨rfl,rfl,rfl,rfl⟩
  | cons p l ih => intro d;exact ih (d.do_ p)
theorem Dsk.doAll_succ (d : Dsk) (l : List (Int × ByteArray)) (k : Nat) {p : Int × ByteArray} (hp : l[k]? = some p) : d.doAll (l.take (k + 1)) = (d.doAll (l.take k)).do_ p := by
  obtain ⟨hk,rfl⟩ := List.getElem?_eq_some_iff.1 hp
  rw [List.take_succ_eq_append_getElem hk]
  unfold Dsk.doAll
  rw [List.foldl_append]
  rfl
def Dsk.flush (d : Dsk) : Dsk := { d.use.doAll d.pend with pend := [] }
theorem Flush_dead (g b : Nat) (v : Value) (d : Dsk) (w : World) (h : DskAt w g b v d) (hl : d.lim = true) (hn : d.left < 1) :
    Calls Tryz.prog 33 #[.pointer (some ⟨g,0,none⟩)] w fun e w' => e = .returned (.int .i64 9) ∧ w = w' := by
  have hu := use_no g b v d w h hl hn
  obtain ⟨c0,c1,c2,c3,c4⟩ := h.cells
  clear hl
  go_enter Tryz.func33,Tryz.ntmps33
  go_wp2_with (go_at_call 72;refine hu.mono ?_;rintro e w' ⟨rfl,rfl⟩)
  go_ret
  exact ⟨rfl,rfl⟩
set_option maxRecDepth 100000 in
theorem Flush_ok (g b : Nat) (v : Value) (d : Dsk) (w : World) (h : DskAt w g b v d) (hl : d.lim = false ∨ 1 ≤ d.left) (hp : d.pend.length ≤ 1000000000) :
    Calls Tryz.prog 33 #[.pointer (some ⟨g,0,none⟩)] w fun e w' => e = .returned (.int .i64 0) ∧ DskAt w' g b (.slice none 0 0) d.flush ∧ Fr (foot g b v) w w' := by
  have hu := use_yes g b v d w h hl
  obtain ⟨c0,c1,c2,c3,c4⟩ := h.cells
  obtain ⟨A,c,rfl,_⟩ := own_slice2 h.row
  clear hl
  go_enter Tryz.func33,Tryz.ntmps33
  go_wp2_with (go_at_call 72;refine hu.mono ?_;rintro e w1 ⟨rfl,h1,hf1⟩;obtain ⟨e0,e1,e2,e3,e4⟩ := h1.cells;clear c0 c1 c2 c3 c4 hu)
  clear e0 e1 e2 e3 e4 h
  go_loopw [18] (fun i wr => ∃ k : Nat,k ≤ d.pend.length ∧ i = .int .i64 k ∧ DskAt wr g b (.slice A d.pend.length c) (d.use.doAll (d.pend.take k)) ∧ Fr (foot g b (.slice A d.pend.length c)) w wr) (fun i _ => d.pend.length - (intOf i).toNat)
  case atStart => exact ⟨0,by omega,rfl,h1,hf1⟩
  case round =>
    clear h1 hf1
    obtain ⟨k,hk,rfl,hD,hF⟩ := hrel
    by_cases hlt : k < d.pend.length
    · have hpk : (d.use.doAll (d.pend.take k)).pend[k]? = some d.pend[k] := by rw [(Dsk.doAll_pend _ _).1];exact List.getElem?_eq_getElem hlt
      obtain ⟨ad,rfl,c0,c1⟩ := hD.at_ hpk
      have hs := Lib.hid (Dsk.doAll_succ d.use d.pend k (List.getElem?_eq_getElem hlt))
      generalize d.pend[k] = p at *
      clear hpk
      have hdo := do_any g b _ _ p.1 p.2 _ (hD.alloc (.cells #[.int .i64 p.1, .string p.2] 152))
      go_wp2_with (go_at_call 93;refine hdo.mono ?_;rintro e w2 ⟨rfl,hD2,hF2⟩;have hF3 := (hF.alloc (.cells #[.int .i64 p.1, .string p.2] 152)).trans hF2 (fun _ _ e => e);clear hdo hF2)
      go_roundw
      case rel => exact ⟨k + 1,by omega,by go_num,by rw [hs.out];exact hD2,hF3⟩
      case measure => simp [intOf];omega
    · obtain rfl : k = d.pend.length := by omega
      rw [List.take_length] at hD
      obtain ⟨c0,c1,c2,c3,c4⟩ := hD.cells
      have f4 := hD.free 4
      have hfin : DskAt (wr.setCell ⟨g,4,none⟩ (.slice none 0 0)) g b (.slice none 0 0) d.flush :=
        ⟨hD.blk.set_ 4 _,hD.map.setCell (fun e => hD.gb e.symm) _,World.ownsRow_nil ..,by simp [Value.ownBlock],hD.gb,by simp [Value.ownBlock]⟩
      have HF := Lib.hid hfin
      clear hfin hD
      go_wp2
      go_ret
      exact ⟨rfl,HF.out,hF.setCell (fun _ => .inl rfl) _⟩
def mix (s r : ByteArray) (k : Nat) : ByteArray := ⟨(s.data.toList.take k ++ r.data.toList.drop k).toArray⟩
def cutAt (at_ : Int) : Nat := (min (max at_ 0) 128).toNat
def Dsk.tear (d : Dsk) (p : Int × ByteArray) (at_ : Int) : Dsk := d.do_ (p.1,mix p.2 (d.holds p.1) (cutAt at_))
end Go.Proofs.YtidacaihmjdmkaaGreat
