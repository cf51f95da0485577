/- What the laws of this seat lean on, part 13. -/
import Derived.Test.YtidacaihmjdmkaaGreatZK12
import Derived.Test.YtidacaihmjdmkaaGreatZK7
import Derived.Test.YtidacaihmjdmkaaGreatZK4
import Derived.Laws.Entries
import Derived.Test.YtidacaihmjdmkaaGreatZK5
import Derived.Test.YtidacaihmjdmkaaGreatZK2
set_option linter.unusedSimpArgs false
set_option linter.unusedVariables false
set_option maxRecDepth 100000
namespace Go.Proofs.YtidacaihmjdmkaaGreat
open Go.RowKit
attribute [local go_sem high] run_mx run_mn
structure Cnf where
  segs : Int
  slots : Int
  share : Nat
  rate : Int
abbrev Cnf.cells (c : Cnf) : Array Value := #[.int .i64 c.segs, .int .i64 c.slots, .float .f64 c.share, .int .i64 c.rate]
def Cnf.may (c : Cnf) : Bool := decide (4 ≤ c.segs ∧ c.segs ≤ 16) && decide (1 ≤ c.slots ∧ c.slots ≤ 30) && decide (0 ≤ c.rate ∧ c.rate ≤ 8) && shareOK c.share
theorem Conf2_any (c : Cnf) (w : World) : Calls Tryz.prog 131 #[.agg c.cells] w fun e w' => e = .returned (.int .i64 c.segs) ∧ Newer w w' := by
  go_enter Tryz.func131,Tryz.ntmps131
  go_wp2
  go_ret
  exact ⟨rfl,(Newer.refl w).alloc _⟩
theorem Conf3_any (c : Cnf) (w : World) : Calls Tryz.prog 132 #[.agg c.cells] w fun e w' => e = .returned (.int .i64 c.slots) ∧ Newer w w' := by
  go_enter Tryz.func132,Tryz.ntmps132
  go_wp2
  go_ret
  exact ⟨rfl,(Newer.refl w).alloc _⟩
theorem Conf4_any (c : Cnf) (w : World) : Calls Tryz.prog 133 #[.agg c.cells] w fun e w' => e = .returned (.int .i64 c.rate) ∧ Newer w w' := by
  go_enter Tryz.func133,Tryz.ntmps133
  go_wp2
  go_ret
  exact ⟨rfl,(Newer.refl w).alloc _⟩
set_option maxHeartbeats 4000000 in
theorem Conf1_a (c : Cnf) (low high : Int) (p : Nat) (w : World) (hc : Blk w p 24 c.cells) :
    Calls Tryz.prog 130 #[.agg #[.func (.func 131) #[] #[], .int .i64 low, .int .i64 high], .pointer (some ⟨p,0,none⟩)] w fun e w' => e = .returned (.bool (decide (c.segs < low) || decide (high < c.segs))) ∧ Newer w w' := by
  have hS := Now.pushCells (Sep.start w) 210 #[.func (.func 131) #[] #[], .int .i64 low, .int .i64 high]
  have hB : Newer w (w.alloc (.cells #[.func (.func 131) #[] #[], .int .i64 low, .int .i64 high] 210)) := (Newer.refl w).alloc _
  go_enter Tryz.func130,Tryz.ntmps130
  go_wp2_with fail
  generalize w.alloc (.cells #[.func (.func 131) #[] #[], .int .i64 low, .int .i64 high] 210) = wb at hS hB ⊢
  have hbx := Now.blk (pre:=[]) hS
  have hcb := hc.below hB hc.lt
  have hcell : ∀ v,Newer wb.drew v → v.cell? ⟨w.heap.size,0,none⟩ = some (.func (.func 131) #[] #[]) ∧ v.cell? ⟨w.heap.size,1,none⟩ = some (.int .i64 low) ∧ v.cell? ⟨w.heap.size,2,none⟩ = some (.int .i64 high) ∧ v.cell? ⟨p,0,none⟩ = some (.int .i64 c.segs) ∧ v.cell? ⟨p,1,none⟩ = some (.int .i64 c.slots) ∧ v.cell? ⟨p,2,none⟩ = some (.float .f64 c.share) ∧ v.cell? ⟨p,3,none⟩ = some (.int .i64 c.rate) := fun v hv => by
    have h1 := hbx.below hv.undrew hbx.lt
    have h2 := hcb.below hv.undrew hcb.lt
    exact ⟨h1.cell 0,h1.cell 1,h1.cell 2,h2.cell 0,h2.cell 1,h2.cell 2,h2.cell 3⟩
  clear hbx hcb hS
  by_cases h : c.segs < low
  ·
    refine wp_region_ord Newer.grow [(0,true),(1,true),(2,true),(3,true),(4,true),(5,true),(6,true),(7,true),(8,true),(9,true),(10,true),(11,true),(12,true),(13,true),(14,true),(15,true),(16,true)] [] (by kernel_rfl) (by kernel_rfl) rfl (by kernel_rfl) (by intro _ _ d _ _ h;cases d <;> exact h) ?_
    iterate 17
      (apply wpOrd_take
       · exact rfl
       · intro w1 h1
         (obtain ⟨b0,b1,b2,c0,c1,c2,c3⟩ := hcell w1 h1)
         go_simp
         first
           | with_reducible exact ⟨rfl,sqN _⟩
           | with_reducible exact Conf2_any c _ | with_reducible exact rfl
       simp only [Act.put,sqA,sqB,sqC])
    refine wpOrd_done fun w3 h3 => ?_
    go_wp2_with fail
    go_ret
    exact ⟨by rw [decide_eq_true h];rfl,hB.trans h3.undrew⟩
  ·
    refine wp_region_ord Newer.grow [(0,true),(1,true),(2,true),(3,true),(4,true),(5,true),(6,true),(7,true),(8,true),(9,true),(10,true),(11,true),(12,true),(13,true),(14,true),(15,true),(16,true)] [] (by kernel_rfl) (by kernel_rfl) rfl (by kernel_rfl) (by intro _ _ d _ _ h;cases d <;> exact h) ?_
    iterate 17
      (apply wpOrd_take
       · exact rfl
       · intro w1 h1
         (obtain ⟨b0,b1,b2,c0,c1,c2,c3⟩ := hcell w1 h1)
         go_simp
         first
           | with_reducible exact ⟨rfl,sqN _⟩
           | with_reducible exact Conf2_any c _ | with_reducible exact rfl
       simp only [Act.put,sqA,sqB,sqC])
    refine wpOrd_done fun w3 h3 => ?_
    go_wp2_with fail
    go_ret
    exact ⟨by rw [show decide (c.segs < low) = false from decide_eq_false (by omega)];rfl,hB.trans h3.undrew⟩
set_option maxHeartbeats 4000000 in
theorem Conf1_b (c : Cnf) (low high : Int) (p : Nat) (w : World) (hc : Blk w p 24 c.cells) :
    Calls Tryz.prog 130 #[.agg #[.func (.func 132) #[] #[], .int .i64 low, .int .i64 high], .pointer (some ⟨p,0,none⟩)] w fun e w' => e = .returned (.bool (decide (c.slots < low) || decide (high < c.slots))) ∧ Newer w w' := by
  have hS := Now.pushCells (Sep.start w) 210 #[.func (.func 132) #[] #[], .int .i64 low, .int .i64 high]
  have hB : Newer w (w.alloc (.cells #[.func (.func 132) #[] #[], .int .i64 low, .int .i64 high] 210)) := (Newer.refl w).alloc _
  go_enter Tryz.func130,Tryz.ntmps130
  go_wp2_with fail
  generalize w.alloc (.cells #[.func (.func 132) #[] #[], .int .i64 low, .int .i64 high] 210) = wb at hS hB ⊢
  have hbx := Now.blk (pre:=[]) hS
  have hcb := hc.below hB hc.lt
  have hcell : ∀ v,Newer wb.drew v → v.cell? ⟨w.heap.size,0,none⟩ = some (.func (.func 132) #[] #[]) ∧ v.cell? ⟨w.heap.size,1,none⟩ = some (.int .i64 low) ∧ v.cell? ⟨w.heap.size,2,none⟩ = some (.int .i64 high) ∧ v.cell? ⟨p,0,none⟩ = some (.int .i64 c.segs) ∧ v.cell? ⟨p,1,none⟩ = some (.int .i64 c.slots) ∧ v.cell? ⟨p,2,none⟩ = some (.float .f64 c.share) ∧ v.cell? ⟨p,3,none⟩ = some (.int .i64 c.rate) := fun v hv => by
    have h1 := hbx.below hv.undrew hbx.lt
    have h2 := hcb.below hv.undrew hcb.lt
    exact ⟨h1.cell 0,h1.cell 1,h1.cell 2,h2.cell 0,h2.cell 1,h2.cell 2,h2.cell 3⟩
  clear hbx hcb hS
  by_cases h : c.slots < low
  ·
    refine wp_region_ord Newer.grow [(0,true),(1,true),(2,true),(3,true),(4,true),(5,true),(6,true),(7,true),(8,true),(9,true),(10,true),(11,true),(12,true),(13,true),(14,true),(15,true),(16,true)] [] (by kernel_rfl) (by kernel_rfl) rfl (by kernel_rfl) (by intro _ _ d _ _ h;cases d <;> exact h) ?_
    iterate 17
      (apply wpOrd_take
       · exact rfl
       · intro w1 h1
         (obtain ⟨b0,b1,b2,c0,c1,c2,c3⟩ := hcell w1 h1)
         go_simp
         first
           | with_reducible exact ⟨rfl,sqN _⟩
           | with_reducible exact Conf3_any c _ | with_reducible exact rfl
       simp only [Act.put,sqA,sqB,sqC])
    refine wpOrd_done fun w3 h3 => ?_
    go_wp2_with fail
    go_ret
    exact ⟨by rw [decide_eq_true h];rfl,hB.trans h3.undrew⟩
  ·
    refine wp_region_ord Newer.grow [(0,true),(1,true),(2,true),(3,true),(4,true),(5,true),(6,true),(7,true),(8,true),(9,true),(10,true),(11,true),(12,true),(13,true),(14,true),(15,true),(16,true)] [] (by kernel_rfl) (by kernel_rfl) rfl (by kernel_rfl) (by intro _ _ d _ _ h;cases d <;> exact h) ?_
    iterate 17
      (apply wpOrd_take
       · exact rfl
       · intro w1 h1
         (obtain ⟨b0,b1,b2,c0,c1,c2,c3⟩ := hcell w1 h1)
         go_simp
         first
           | with_reducible exact ⟨rfl,sqN _⟩
           | with_reducible exact Conf3_any c _ | with_reducible exact rfl
       simp only [Act.put,sqA,sqB,sqC])
    refine wpOrd_done fun w3 h3 => ?_
    go_wp2_with fail
    go_ret
    exact ⟨by rw [show decide (c.slots < low) = false from decide_eq_false (by omega)];rfl,hB.trans h3.undrew⟩
set_option maxHeartbeats 4000000 in
theorem Conf1_c (c : Cnf) (low high : Int) (p : Nat) (w : World) (hc : Blk w p 24 c.cells) :
    Calls Tryz.prog 130 #[.agg #[.func (.func 133) #[] #[], .int .i64 low, .int .i64 high], .pointer (some ⟨p,0,none⟩)] w fun e w' => e = .returned (.bool (decide (c.rate < low) || decide (high < c.rate))) ∧ Newer w w' := by
  have hS := Now.pushCells (Sep.start w) 210 #[.func (.func 133) #[] #[], .int .i64 low, .int .i64 high]
  have hB : Newer w (w.alloc (.cells #[.func (.func 133) #[] #[], .int .i64 low, .int .i64 high] 210)) := (Newer.refl w).alloc _
  go_enter Tryz.func130,Tryz.ntmps130
  go_wp2_with fail
  generalize w.alloc (.cells #[.func (.func 133) #[] #[], .int .i64 low, .int .i64 high] 210) = wb at hS hB ⊢
  have hbx := Now.blk (pre:=[]) hS
  have hcb := hc.below hB hc.lt
  have hcell : ∀ v,Newer wb.drew v → v.cell? ⟨w.heap.size,0,none⟩ = some (.func (.func 133) #[] #[]) ∧ v.cell? ⟨w.heap.size,1,none⟩ = some (.int .i64 low) ∧ v.cell? ⟨w.heap.size,2,none⟩ = some (.int .i64 high) ∧ v.cell? ⟨p,0,none⟩ = some (.int .i64 c.segs) ∧ v.cell? ⟨p,1,none⟩ = some (.int .i64 c.slots) ∧ v.cell? ⟨p,2,none⟩ = some (.float .f64 c.share) ∧ v.cell? ⟨p,3,none⟩ = some (.int .i64 c.rate) := fun v hv => by
    have h1 := hbx.below hv.undrew hbx.lt
    have h2 := hcb.below hv.undrew hcb.lt
    exact ⟨h1.cell 0,h1.cell 1,h1.cell 2,h2.cell 0,h2.cell 1,h2.cell 2,h2.cell 3⟩
  clear hbx hcb hS
  by_cases h : c.rate < low
  ·
    refine wp_region_ord Newer.grow [(0,true),(1,true),(2,true),(3,true),(4,true),(5,true),(6,true),(7,true),(8,true),(9,true),(10,true),(11,true),(12,true),(13,true),(14,true),(15,true),(16,true)] [] (by kernel_rfl) (by kernel_rfl) rfl (by kernel_rfl) (by intro _ _ d _ _ h;cases d <;> exact h) ?_
    iterate 17
      (apply wpOrd_take
       · exact rfl
       · intro w1 h1
         (obtain ⟨b0,b1,b2,c0,c1,c2,c3⟩ := hcell w1 h1)
         go_simp
         first
           | with_reducible exact ⟨rfl,sqN _⟩
           | with_reducible exact Conf4_any c _ | with_reducible exact rfl
       simp only [Act.put,sqA,sqB,sqC])
    refine wpOrd_done fun w3 h3 => ?_
    go_wp2_with fail
    go_ret
    exact ⟨by rw [decide_eq_true h];rfl,hB.trans h3.undrew⟩
  ·
    refine wp_region_ord Newer.grow [(0,true),(1,true),(2,true),(3,true),(4,true),(5,true),(6,true),(7,true),(8,true),(9,true),(10,true),(11,true),(12,true),(13,true),(14,true),(15,true),(16,true)] [] (by kernel_rfl) (by kernel_rfl) rfl (by kernel_rfl) (by intro _ _ d _ _ h;cases d <;> exact h) ?_
    iterate 17
      (apply wpOrd_take
       · exact rfl
       · intro w1 h1
         (obtain ⟨b0,b1,b2,c0,c1,c2,c3⟩ := hcell w1 h1)
         go_simp
         first
           | with_reducible exact ⟨rfl,sqN _⟩
           | with_reducible exact Conf4_any c _ | with_reducible exact rfl
       simp only [Act.put,sqA,sqB,sqC])
    refine wpOrd_done fun w3 h3 => ?_
    go_wp2_with fail
    go_ret
    exact ⟨by rw [show decide (c.rate < low) = false from decide_eq_false (by omega)];rfl,hB.trans h3.undrew⟩
end Go.Proofs.YtidacaihmjdmkaaGreat
namespace Go.Proofs.YtidacaihmjdmkaaGreat
open Go.RowKit
attribute [local go_sem high] run_mx run_mn
theorem run_store_func (P : Program) (w : World) (a : Addr) (m : Mode) (f : Fn) (x y : Array Value) : (store a (.func f x y) m).run P w = stored P w a (.func f x y) m := run_store P w a _ m rfl
attribute [local go_sem] run_store_func
abbrev fieldRow : Array Value := #[.func (.func 131) #[] #[], .int .i64 4, .int .i64 16, .func (.func 132) #[] #[], .int .i64 1, .int .i64 30, .func (.func 133) #[] #[], .int .i64 0, .int .i64 8]
def Cnf.ok (c : Cnf) : Nat → Bool
  | 0 => true
  | 1 => !(decide (c.segs < 4) || decide (16 < c.segs))
  | 2 => !(decide (c.segs < 4) || decide (16 < c.segs)) && !(decide (c.slots < 1) || decide (30 < c.slots))
  | _ => !(decide (c.segs < 4) || decide (16 < c.segs)) && !(decide (c.slots < 1) || decide (30 < c.slots)) && !(decide (c.rate < 0) || decide (8 < c.rate))
theorem Cnf.may_eq (c : Cnf) : c.may = (c.ok 3 && shareOK c.share) := by
  unfold Cnf.may Cnf.ok
  congr 1
  rw [Bool.eq_iff_iff]
  simp only [Bool.and_eq_true,Bool.not_eq_true',Bool.or_eq_false_iff,decide_eq_true_eq,decide_eq_false_iff_not]
  omega
set_option maxHeartbeats 8000000 in
theorem Conf_any (c : Cnf) (hb : c.share < 18446744073709551616) (w : World) : Calls Tryz.prog 74 #[.agg c.cells] w fun e w' => e = .returned (.int .i64 (if c.may = true then 0 else 1)) ∧ Newer w w' := by
  have hmf : ∀ (fn : Fn) (first cap : Array Value) (w : World),(Instr.makeFunc fn first cap).run Tryz.prog w = .ok (.func fn first cap) w := fun _ _ _ _ => rfl
  have hS := Now.pushCells (Now.pushCells (Sep.start w) 24 c.cells) 210 fieldRow
  have hB : Newer w ((w.alloc (.cells c.cells 24)).alloc (.cells fieldRow 210)) := ((Newer.refl w).alloc _).alloc _
  simp only [World.size_alloc] at hS
  have hc0 := Now.blk (pre:=[_]) hS
  have hf0 := Now.blk (pre:=[]) hS
  clear hS
  rw [c.may_eq]
  obtain ⟨ans,hans⟩ : ∃ ans : Int,(if (c.ok 3 && shareOK c.share) = true then (0 : Int) else 1) = ans := ⟨_,rfl⟩
  rw [hans]
  have HANS := Lib.hid hans
  clear hans
  go_enter Tryz.func74,Tryz.ntmps74
  go_wp2_with fail
  go_loopw [14] (fun i wr => ∃ k : Nat,k ≤ 3 ∧ i = .int .i64 k ∧ c.ok k = true ∧ Blk wr w.heap.size 24 c.cells ∧ Blk wr (w.heap.size + 1) 210 fieldRow ∧ Newer w wr) (fun i _ => 3 - (intOf i).toNat)
  case atStart => exact ⟨0,by omega,rfl,rfl,hc0,hf0,hB⟩
  case round =>
    clear hc0 hf0 hB
    obtain ⟨k,hk,rfl,hok,hc,hf,hN⟩ := hrel
    have hcs : k = 0 ∨ k = 1 ∨ k = 2 ∨ k = 3 := by omega
    have c0 : wr.cell? ⟨w.heap.size,0,none⟩ = some (.int .i64 c.segs) := hc.cell 0
    have c1 : wr.cell? ⟨w.heap.size,1,none⟩ = some (.int .i64 c.slots) := hc.cell 1
    have c2 : wr.cell? ⟨w.heap.size,2,none⟩ = some (.float .f64 c.share) := hc.cell 2
    have c3 : wr.cell? ⟨w.heap.size,3,none⟩ = some (.int .i64 c.rate) := hc.cell 3
    have f0 : wr.cell? ⟨w.heap.size + 1,0,none⟩ = some (.func (.func 131) #[] #[]) := hf.cell 0
    have f1 : wr.cell? ⟨w.heap.size + 1,1,none⟩ = some (.int .i64 4) := hf.cell 1
    have f2 : wr.cell? ⟨w.heap.size + 1,2,none⟩ = some (.int .i64 16) := hf.cell 2
    have f3 : wr.cell? ⟨w.heap.size + 1,3,none⟩ = some (.func (.func 132) #[] #[]) := hf.cell 3
    have f4 : wr.cell? ⟨w.heap.size + 1,4,none⟩ = some (.int .i64 1) := hf.cell 4
    have f5 : wr.cell? ⟨w.heap.size + 1,5,none⟩ = some (.int .i64 30) := hf.cell 5
    have f6 : wr.cell? ⟨w.heap.size + 1,6,none⟩ = some (.func (.func 133) #[] #[]) := hf.cell 6
    have f7 : wr.cell? ⟨w.heap.size + 1,7,none⟩ = some (.int .i64 0) := hf.cell 7
    have f8 : wr.cell? ⟨w.heap.size + 1,8,none⟩ = some (.int .i64 8) := hf.cell 8
    rcases hcs with rfl | rfl | rfl | rfl
    · have hq := fun v (h : Newer wr v) => Conf1_a c 4 16 w.heap.size v (hc.below h hc.lt)
      obtain ⟨bw,hbw⟩ : ∃ bw,(decide (c.segs < 4) || decide (16 < c.segs)) = bw := ⟨_,rfl⟩
      rw [hbw] at hq
      have hz : ((0 : Nat) : Int) = 0 := rfl
      simp only [hz]
      have HOK := Lib.hid hok
      have HBW := Lib.hid hbw
      clear hok hbw hz hk
      cases bw with
      | true =>
        go_wp2_with (go_at_call 130;(with_reducible refine (hq _ ((Newer.refl wr).alloc _)).mono ?_);rintro e w1 ⟨rfl,hB1⟩)
        go_ret
        exact ⟨by rw [← HANS.out,show (c.ok 3 && shareOK c.share) = false by unfold Cnf.ok;rw [HBW.out];simp];rfl,(hN.alloc _).trans hB1⟩
      | false =>
        go_wp2_with (go_at_call 130;(with_reducible refine (hq _ ((Newer.refl wr).alloc _)).mono ?_);rintro e w1 ⟨rfl,hB1⟩)
        have hB2 := ((Newer.refl wr).alloc _).trans hB1
        go_roundw
        case rel => exact ⟨1,by omega,rfl,by (unfold Cnf.ok;rw [HBW.out];rfl),hc.below hB2 hc.lt,hf.below hB2 hf.lt,hN.trans hB2⟩
        case measure => simp [intOf]
    · have hq := fun v (h : Newer wr v) => Conf1_b c 1 30 w.heap.size v (hc.below h hc.lt)
      obtain ⟨bw,hbw⟩ : ∃ bw,(decide (c.slots < 1) || decide (30 < c.slots)) = bw := ⟨_,rfl⟩
      rw [hbw] at hq
      have hz : ((1 : Nat) : Int) = 1 := rfl
      simp only [hz]
      have HOK := Lib.hid hok
      have HBW := Lib.hid hbw
      clear hok hbw hz hk
      cases bw with
      | true =>
        go_wp2_with (go_at_call 130;(with_reducible refine (hq _ ((Newer.refl wr).alloc _)).mono ?_);rintro e w1 ⟨rfl,hB1⟩)
        go_ret
        exact ⟨by rw [← HANS.out,show (c.ok 3 && shareOK c.share) = false by unfold Cnf.ok;rw [HBW.out];simp];rfl,(hN.alloc _).trans hB1⟩
      | false =>
        go_wp2_with (go_at_call 130;(with_reducible refine (hq _ ((Newer.refl wr).alloc _)).mono ?_);rintro e w1 ⟨rfl,hB1⟩)
        have hB2 := ((Newer.refl wr).alloc _).trans hB1
        go_roundw
        case rel => exact ⟨2,by omega,rfl,by (show (c.ok 1 && !(decide (c.slots < 1) || decide (30 < c.slots))) = true;rw [HOK.out,HBW.out];rfl),hc.below hB2 hc.lt,hf.below hB2 hf.lt,hN.trans hB2⟩
        case measure => simp [intOf]
    · have hq := fun v (h : Newer wr v) => Conf1_c c 0 8 w.heap.size v (hc.below h hc.lt)
      obtain ⟨bw,hbw⟩ : ∃ bw,(decide (c.rate < 0) || decide (8 < c.rate)) = bw := ⟨_,rfl⟩
      rw [hbw] at hq
      have hz : ((2 : Nat) : Int) = 2 := rfl
      simp only [hz]
      have HOK := Lib.hid hok
      have HBW := Lib.hid hbw
      clear hok hbw hz hk
      cases bw with
      | true =>
        go_wp2_with (go_at_call 130;(with_reducible refine (hq _ ((Newer.refl wr).alloc _)).mono ?_);rintro e w1 ⟨rfl,hB1⟩)
        go_ret
        exact ⟨by rw [← HANS.out,show (c.ok 3 && shareOK c.share) = false by unfold Cnf.ok;rw [HBW.out];simp];rfl,(hN.alloc _).trans hB1⟩
      | false =>
        go_wp2_with (go_at_call 130;(with_reducible refine (hq _ ((Newer.refl wr).alloc _)).mono ?_);rintro e w1 ⟨rfl,hB1⟩)
        have hB2 := ((Newer.refl wr).alloc _).trans hB1
        go_roundw
        case rel => exact ⟨3,by omega,rfl,by (show (c.ok 2 && !(decide (c.rate < 0) || decide (8 < c.rate))) = true;rw [HOK.out,HBW.out];rfl),hc.below hB2 hc.lt,hf.below hB2 hf.lt,hN.trans hB2⟩
        case measure => simp [intOf]
    · have hs := fun v => Share_one c.share hb v
      have hz : ((3 : Nat) : Int) = 3 := rfl
      simp only [hz]
      have HOK := Lib.hid hok
      clear hok hz hk
      obtain ⟨sv,hsv⟩ : ∃ sv,shareOK c.share = sv := ⟨_,rfl⟩
      rw [hsv] at hs
      have HSV := Lib.hid hsv
      clear hsv
      have hfin : Hid ((if (c.ok 3 && shareOK c.share) = true then (0 : Int) else 1) = if sv = true then 0 else 1) := Lib.hid (by rw [HOK.out,HSV.out];cases sv <;> rfl)
      clear HOK HSV
      cases sv with
      | true =>
        go_wp2_with (go_at_call 134;(with_reducible refine (hs _).mono ?_);rintro e w1 ⟨⟨n,rfl⟩,rfl⟩)
        go_ret
        exact ⟨by rw [← HANS.out,hfin.out];rfl,hN⟩
      | false =>
        go_wp2_with (go_at_call 134;(with_reducible refine (hs _).mono ?_);rintro e w1 ⟨⟨n,rfl⟩,rfl⟩)
        go_ret
        exact ⟨by rw [← HANS.out,hfin.out];rfl,hN⟩
def Cnf.sectors (c : Cnf) : Int := if c.may = true then 2 + c.segs * (c.slots + 1) else 0
theorem Cnf.may_in {c : Cnf} (h : c.may = true) : (4 ≤ c.segs ∧ c.segs ≤ 16) ∧ (1 ≤ c.slots ∧ c.slots ≤ 30) := by
  unfold Cnf.may at h
  simp only [Bool.and_eq_true,decide_eq_true_eq] at h
  omega
theorem sec_bound (a b : Int) (ha : 4 ≤ a ∧ a ≤ 16) (hb : 1 ≤ b ∧ b ≤ 30) : 8 ≤ a * (b + 1) ∧ a * (b + 1) ≤ 496 := by
  have h1 : 4 * 2 ≤ a * (b + 1) := Int.mul_le_mul ha.1 (by omega) (by omega) (by omega)
  have h2 : a * (b + 1) ≤ 16 * 31 := Int.mul_le_mul ha.2 (by omega) (by omega) (by omega)
  omega
set_option maxHeartbeats 8000000 in
theorem Sectors_any (c : Cnf) (hb : c.share < 18446744073709551616) (w : World) : Calls Tryz.prog 76 #[.agg c.cells] w fun e w' => e = .returned (.int .i64 c.sectors) ∧ Newer w w' := by
  have hq := fun v => Conf_any c hb v
  have hc := Blk.new w 24 c.cells
  unfold Cnf.sectors
  cases hm : c.may with
  | false =>
    rw [hm] at hq
    rw [if_neg (by simp)]
    clear hm
    go_enter Tryz.func76,Tryz.ntmps76
    go_wp2_with (go_at_call 74;(with_reducible refine (hq _).mono ?_);rintro e w1 ⟨rfl,hB⟩)
    go_ret
    exact ⟨rfl,((Newer.refl w).alloc _).trans hB⟩
  | true =>
    rw [hm] at hq
    rw [if_pos rfl]
    obtain ⟨hs,hl⟩ := Cnf.may_in hm
    have hbd := sec_bound c.segs c.slots hs hl
    have hw1 : IntKind.i64.wrap (c.slots + 1) = c.slots + 1 := IntWalk.i64_in _ (by omega)
    have hw2 : IntKind.i64.wrap (c.segs * (c.slots + 1)) = c.segs * (c.slots + 1) := IntWalk.i64_in _ (by omega)
    have hw3 : IntKind.i64.wrap (2 + c.segs * (c.slots + 1)) = 2 + c.segs * (c.slots + 1) := IntWalk.i64_in _ (by omega)
    have hv1 : wrap64 (c.slots + 1) = c.slots + 1 := IntWalk.wrap64_in _ (by omega)
    have hv2 : wrap64 (c.segs * (c.slots + 1)) = c.segs * (c.slots + 1) := IntWalk.wrap64_in _ (by omega)
    have hv3 : wrap64 (2 + c.segs * (c.slots + 1)) = 2 + c.segs * (c.slots + 1) := IntWalk.wrap64_in _ (by omega)
    clear hm hbd hs hl
    go_enter Tryz.func76,Tryz.ntmps76
    go_wp2_with (go_at_call 74;(with_reducible refine (hq _).mono ?_);rintro e w1 ⟨rfl,hB⟩;have hc1 := hc.below hB hc.lt;have c0 : w1.cell? ⟨w.heap.size,0,none⟩ = some (.int .i64 c.segs) := hc1.cell 0;have c1 : w1.cell? ⟨w.heap.size,1,none⟩ = some (.int .i64 c.slots) := hc1.cell 1;clear hq)
    go_ret
    exact ⟨rfl,((Newer.refl w).alloc _).trans hB⟩
end Go.Proofs.YtidacaihmjdmkaaGreat
namespace Go.Proofs.YtidacaihmjdmkaaGreat
open Go.RowKit
attribute [local go_sem high] run_mx run_mn
theorem kind_parts (b : Nat) (hb : b < 18446744073709551616) : kindB b =
    if b / 4503599627370496 % 2048 = 2047 then (if b % 4503599627370496 = 0 then (if 9223372036854775808 ≤ b then 1 else 6) else 0)
    else if b / 4503599627370496 % 2048 = 0 ∧ b % 4503599627370496 = 0 then (if 9223372036854775808 ≤ b then 3 else 4)
    else if 9223372036854775808 ≤ b then 2 else 5 := by
  have e : b % 9223372036854775808 = (b / 4503599627370496 % 2048) * 4503599627370496 + b % 4503599627370496 := by omega
  have h1 : b / 4503599627370496 % 2048 < 2048 := Nat.mod_lt _ (by omega)
  have h2 : b % 4503599627370496 < 4503599627370496 := Nat.mod_lt _ (by omega)
  unfold kindB
  rw [e]
  generalize b / 4503599627370496 % 2048 = h at *
  generalize b % 4503599627370496 = l at *
  by_cases c1 : h = 2047
  · rw [if_pos c1]
    by_cases c2 : l = 0
    · rw [if_pos c2,if_neg (by omega),if_pos (by omega)]
    · rw [if_neg c2,if_pos (by omega)]
  · rw [if_neg c1,if_neg (by omega),if_neg (by omega)]
    by_cases c3 : h = 0 ∧ l = 0
    · rw [if_pos c3,if_pos (by omega)]
    · rw [if_neg c3,if_neg (by omega)]
set_option maxHeartbeats 4000000 in
theorem RKind_any (b : Nat) (hb : b < 18446744073709551616) (w : World) : Calls Tryz.prog 90 #[.float .f64 b] w fun e w' => e = .returned (.int .i64 (kindB b)) ∧ w = w' := by
  have hf := run_f64bits
  rw [kind_parts b hb]
  have e1 : ((b : Int).tmod 4503599627370496) = ((b % 4503599627370496 : Nat) : Int) := by rw [Int.tmod_eq_emod_of_nonneg (by omega)];omega
  have e2 : (IntKind.u64.wrap ((b : Int) / 4503599627370496)).tmod 2048 = ((b / 4503599627370496 % 2048 : Nat) : Int) := by rw [IntWalk.u64_in _ (by omega),Int.tmod_eq_emod_of_nonneg (by omega)];omega
  have e3 : decide (9223372036854775808 ≤ (b : Int)) = decide (9223372036854775808 ≤ b) := decide_eq_decide.2 (by omega)
  have hL0 : (0 : Int) ≤ ((b % 4503599627370496 : Nat) : Int) := by omega
  generalize b / 4503599627370496 % 2048 = h at *
  generalize b % 4503599627370496 = l at *
  by_cases c1 : h = 2047
  · subst c1
    rw [if_pos rfl]
    have e4 : ((2047 : Nat) : Int) = 2047 := rfl
    rw [e4] at e2
    clear e4 hb
    by_cases c2 : l = 0
    · subst c2
      rw [if_pos rfl]
      have e4 : ((0 : Nat) : Int) = 0 := rfl
      rw [e4] at e1
      clear e4 hL0
      by_cases c3 : 9223372036854775808 ≤ b
      · rw [if_pos c3]
        rw [decide_eq_true c3] at e3
        clear c3
        go_enter Tryz.func90,Tryz.ntmps90
        go_wp2
        go_ret
        exact ⟨rfl,rfl⟩
      · rw [if_neg c3]
        rw [decide_eq_false c3] at e3
        clear c3
        go_enter Tryz.func90,Tryz.ntmps90
        go_wp2
        go_ret
        exact ⟨rfl,rfl⟩
    · rw [if_neg c2]
      have c4 : (0 : Int) < (l : Int) := by omega
      obtain ⟨L,hL⟩ : ∃ L : Int,(l : Int) = L := ⟨_,rfl⟩
      rw [hL] at e1 c4
      generalize decide (9223372036854775808 ≤ b) = m at *
      clear hL0 hL c2
      go_enter Tryz.func90,Tryz.ntmps90
      go_wp2
      go_ret
      exact ⟨rfl,rfl⟩
  rw [if_neg c1]
  obtain ⟨H,hH⟩ : ∃ H : Int,(h : Int) = H := ⟨_,rfl⟩
  obtain ⟨L,hL⟩ : ∃ L : Int,(l : Int) = L := ⟨_,rfl⟩
  rw [hH] at e2
  rw [hL] at e1 hL0
  have n1 : H ≠ 2047 := by omega
  clear hb
  by_cases c3 : h = 0 ∧ l = 0
  · rw [if_pos c3]
    obtain rfl : H = 0 := by omega
    obtain rfl : L = 0 := by omega
    clear hH hL hL0 c1 c3 n1
    by_cases c6 : 9223372036854775808 ≤ b
    · rw [if_pos c6]
      rw [decide_eq_true c6] at e3
      clear c6
      go_enter Tryz.func90,Tryz.ntmps90
      go_wp2
      go_ret
      exact ⟨rfl,rfl⟩
    · rw [if_neg c6]
      rw [decide_eq_false c6] at e3
      clear c6
      go_enter Tryz.func90,Tryz.ntmps90
      go_wp2
      go_ret
      exact ⟨rfl,rfl⟩
  · rw [if_neg c3]
    by_cases c5 : H = 0
    · subst c5
      have n2 : L ≠ 0 := by omega
      clear hH hL c1 c3 n1 hL0
      by_cases c6 : 9223372036854775808 ≤ b
      · rw [if_pos c6]
        rw [decide_eq_true c6] at e3
        clear c6
        go_enter Tryz.func90,Tryz.ntmps90
        go_wp2
        go_ret
        exact ⟨rfl,rfl⟩
      · rw [if_neg c6]
        rw [decide_eq_false c6] at e3
        clear c6
        go_enter Tryz.func90,Tryz.ntmps90
        go_wp2
        go_ret
        exact ⟨rfl,rfl⟩
    · clear hH hL c1 c3 hL0
      by_cases c6 : 9223372036854775808 ≤ b
      · rw [if_pos c6]
        rw [decide_eq_true c6] at e3
        clear c6
        go_enter Tryz.func90,Tryz.ntmps90
        go_wp2
        go_ret
        exact ⟨rfl,rfl⟩
      · rw [if_neg c6]
        rw [decide_eq_false c6] at e3
        clear c6
        go_enter Tryz.func90,Tryz.ntmps90
        go_wp2
        go_ret
        exact ⟨rfl,rfl⟩
set_option maxHeartbeats 8000000 in
theorem May_any (c : Cnf) (hb : c.share < 18446744073709551616) (w : World) : Calls Tryz.prog 30 #[.agg c.cells] w fun e w' => e = .returned (.bool c.may) ∧ Newer w w' := by
  have hk := fun v => RKind_any c.share hb v
  by_cases a1 : 4 ≤ c.segs
  case neg =>
    have HANS : Hid (false = c.may) := Lib.hid (by unfold Cnf.may;symm;simp only [Bool.and_eq_false_iff,decide_eq_false_iff_not];omega)
    generalize c.may = ans at *
    go_enter Tryz.func30,Tryz.ntmps30
    go_wp2_with (go_at_call 90;(with_reducible refine (hk _).mono ?_);rintro e w1 ⟨rfl,rfl⟩)
    go_ret
    exact ⟨by rw [← HANS.out];exact rfl,(Newer.refl w).alloc _⟩
  by_cases a2 : c.segs ≤ 16
  case neg =>
    have HANS : Hid (false = c.may) := Lib.hid (by unfold Cnf.may;symm;simp only [Bool.and_eq_false_iff,decide_eq_false_iff_not];omega)
    generalize c.may = ans at *
    go_enter Tryz.func30,Tryz.ntmps30
    go_wp2_with (go_at_call 90;(with_reducible refine (hk _).mono ?_);rintro e w1 ⟨rfl,rfl⟩)
    go_ret
    exact ⟨by rw [← HANS.out];exact rfl,(Newer.refl w).alloc _⟩
  by_cases a3 : 1 ≤ c.slots
  case neg =>
    have HANS : Hid (false = c.may) := Lib.hid (by unfold Cnf.may;symm;simp only [Bool.and_eq_false_iff,decide_eq_false_iff_not];omega)
    generalize c.may = ans at *
    go_enter Tryz.func30,Tryz.ntmps30
    go_wp2_with (go_at_call 90;(with_reducible refine (hk _).mono ?_);rintro e w1 ⟨rfl,rfl⟩)
    go_ret
    exact ⟨by rw [← HANS.out];exact rfl,(Newer.refl w).alloc _⟩
  by_cases a4 : c.slots ≤ 30
  case neg =>
    have HANS : Hid (false = c.may) := Lib.hid (by unfold Cnf.may;symm;simp only [Bool.and_eq_false_iff,decide_eq_false_iff_not];omega)
    generalize c.may = ans at *
    go_enter Tryz.func30,Tryz.ntmps30
    go_wp2_with (go_at_call 90;(with_reducible refine (hk _).mono ?_);rintro e w1 ⟨rfl,rfl⟩)
    go_ret
    exact ⟨by rw [← HANS.out];exact rfl,(Newer.refl w).alloc _⟩
  by_cases a5 : 0 ≤ c.rate
  case neg =>
    have HANS : Hid (false = c.may) := Lib.hid (by unfold Cnf.may;symm;simp only [Bool.and_eq_false_iff,decide_eq_false_iff_not];omega)
    generalize c.may = ans at *
    go_enter Tryz.func30,Tryz.ntmps30
    go_wp2_with (go_at_call 90;(with_reducible refine (hk _).mono ?_);rintro e w1 ⟨rfl,rfl⟩)
    go_ret
    exact ⟨by rw [← HANS.out];exact rfl,(Newer.refl w).alloc _⟩
  by_cases a6 : c.rate ≤ 8
  case neg =>
    have HANS : Hid (false = c.may) := Lib.hid (by unfold Cnf.may;symm;simp only [Bool.and_eq_false_iff,decide_eq_false_iff_not];omega)
    generalize c.may = ans at *
    go_enter Tryz.func30,Tryz.ntmps30
    go_wp2_with (go_at_call 90;(with_reducible refine (hk _).mono ?_);rintro e w1 ⟨rfl,rfl⟩)
    go_ret
    exact ⟨by rw [← HANS.out];exact rfl,(Newer.refl w).alloc _⟩
  have hbase : c.may = shareOK c.share := by
    unfold Cnf.may
    rw [decide_eq_true ⟨a1,a2⟩,decide_eq_true ⟨a3,a4⟩,decide_eq_true ⟨a5,a6⟩];rfl
  have hkr := kind_range c.share
  have hk3 : kindB c.share = 3 ∨ kindB c.share = 4 → shareOK c.share = true := fun h => by
    have hz : c.share % 9223372036854775808 = 0 := by
      unfold kindB at h
      split at h
      · omega
      · split at h
        · split at h <;> omega
        · split at h
          · omega
          · split at h <;> omega
    have ho : Ieee.double.order c.share 4607182418800017408 ≠ some .gt := by
      have hd : c.share = 0 ∨ c.share = 9223372036854775808 := by omega
      rcases hd with hd | hd <;> rw [hd] <;> decide
    unfold shareOK
    rw [decide_eq_true (by omega),beq_eq_false_iff_ne.2 ho];rfl
  have hleq : kindB c.share = 5 → (FloatKind.f64.format.order c.share 4607182418800017408 == some .lt || FloatKind.f64.format.order c.share 4607182418800017408 == some .eq) = shareOK c.share := fun h => by
    show (Ieee.double.order c.share 4607182418800017408 == some .lt || Ieee.double.order c.share 4607182418800017408 == some .eq) = _
    unfold shareOK
    rw [h]
    have hfn : c.share % 9223372036854775808 < 9218868437227405312 := by
      unfold kindB at h
      split at h
      · omega
      · split at h
        · split at h <;> omega
        · omega
    unfold Ieee.Format.order
    rw [read_num _ hb hfn,read_num 4607182418800017408 (by omega) (by omega),order_num]
    generalize compare (α := Int) _ _ = o
    cases o <;> rfl
  by_cases k3 : kindB c.share = 3
  · have hs := hk3 (.inl k3)
    rw [k3] at hk
    clear hk3 hleq hkr
    have HANS : Hid (true = c.may) := Lib.hid (by rw [hbase];rw [hs])
    clear hbase
    generalize c.may = ans at *
    go_enter Tryz.func30,Tryz.ntmps30
    go_wp2_with (go_at_call 90;(with_reducible refine (hk _).mono ?_);rintro e w1 ⟨rfl,rfl⟩)
    go_ret
    exact ⟨by rw [← HANS.out];exact rfl,(Newer.refl w).alloc _⟩
  by_cases k4 : kindB c.share = 4
  · have hs := hk3 (.inr k4)
    rw [k4] at hk
    clear hk3 hleq hkr
    have HANS : Hid (true = c.may) := Lib.hid (by rw [hbase];rw [hs])
    clear hbase
    generalize c.may = ans at *
    go_enter Tryz.func30,Tryz.ntmps30
    go_wp2_with (go_at_call 90;(with_reducible refine (hk _).mono ?_);rintro e w1 ⟨rfl,rfl⟩)
    go_ret
    exact ⟨by rw [← HANS.out];exact rfl,(Newer.refl w).alloc _⟩
  clear hk3
  by_cases k5 : kindB c.share = 5
  · have hle := hleq k5
    rw [k5] at hk
    clear hleq hkr
    cases hs : shareOK c.share with
    | true =>
      rw [hs] at hle
      have HANS : Hid (true = c.may) := Lib.hid (by rw [hbase];rw [hs])
      clear hbase
      generalize c.may = ans at *
      go_enter Tryz.func30,Tryz.ntmps30
      go_wp2_with (go_at_call 90;(with_reducible refine (hk _).mono ?_);rintro e w1 ⟨rfl,rfl⟩)
      go_ret
      exact ⟨by rw [← HANS.out];exact rfl,(Newer.refl w).alloc _⟩
    | false =>
      rw [hs] at hle
      have HANS : Hid (false = c.may) := Lib.hid (by rw [hbase];rw [hs])
      clear hbase
      generalize c.may = ans at *
      go_enter Tryz.func30,Tryz.ntmps30
      go_wp2_with (go_at_call 90;(with_reducible refine (hk _).mono ?_);rintro e w1 ⟨rfl,rfl⟩)
      go_ret
      exact ⟨by rw [← HANS.out];exact rfl,(Newer.refl w).alloc _⟩
  have hs : shareOK c.share = false := by
    by_cases h6 : kindB c.share = 6
    · have hi := kind_6.1 h6
      unfold shareOK
      rw [order_inf _ _ hb hi.1 (by omega) (by omega),if_neg (by omega)];simp
    · unfold shareOK
      rw [decide_eq_false (by omega)];rfl
  clear hleq
  have HKR := Lib.hid hkr
  clear hkr
  have HANS : Hid (false = c.may) := Lib.hid (by rw [hbase];rw [hs])
  clear hbase
  generalize c.may = ans at *
  go_enter Tryz.func30,Tryz.ntmps30
  go_wp2_with (go_at_call 90;(with_reducible refine (hk _).mono ?_);rintro e w1 ⟨rfl,rfl⟩)
  go_ret
  exact ⟨by rw [← HANS.out];show Ending.returned (.bool (kindB c.share == 3 || kindB c.share == 4)) = _;rw [beq_eq_false_iff_ne.2 k3,beq_eq_false_iff_ne.2 k4];rfl,(Newer.refl w).alloc _⟩
end Go.Proofs.YtidacaihmjdmkaaGreat
namespace Go.Proofs.YtidacaihmjdmkaaGreat
open Go.RowKit
attribute [local go_sem high] run_mx run_mn
theorem run_store_flt (P : Program) (w : World) (a : Addr) (m : Mode) (k : FloatKind) (b : Nat) : (store a (.float k b) m).run P w = stored P w a (.float k b) m := run_store P w a _ m rfl
attribute [local go_sem] run_store_flt
set_option maxHeartbeats 8000000 in
theorem RSectors_any (c : Cnf) (hb : c.share < 18446744073709551616) (w : World) : Calls Tryz.prog 31 #[.agg c.cells] w fun e w' => e = .returned (.int .i64 c.sectors) ∧ Newer w w' := by
  have hq := fun v => May_any c hb v
  have hc := Blk.new w 24 c.cells
  unfold Cnf.sectors
  cases hm : c.may with
  | false =>
    rw [hm] at hq
    rw [if_neg (by simp)]
    clear hm
    go_enter Tryz.func31,Tryz.ntmps31
    go_wp2_with (go_at_call 30;(with_reducible refine (hq _).mono ?_);rintro e w1 ⟨rfl,hB⟩)
    go_ret
    exact ⟨rfl,((Newer.refl w).alloc _).trans hB⟩
  | true =>
    rw [hm] at hq
    rw [if_pos rfl]
    obtain ⟨hs,hl⟩ := Cnf.may_in hm
    have hbd := sec_bound c.segs c.slots hs hl
    have hw1 : IntKind.i64.wrap (c.slots + 1) = c.slots + 1 := IntWalk.i64_in _ (by omega)
    have hw2 : IntKind.i64.wrap (c.segs * (c.slots + 1)) = c.segs * (c.slots + 1) := IntWalk.i64_in _ (by omega)
    have hw3 : IntKind.i64.wrap (2 + c.segs * (c.slots + 1)) = 2 + c.segs * (c.slots + 1) := IntWalk.i64_in _ (by omega)
    have hv1 : wrap64 (c.slots + 1) = c.slots + 1 := IntWalk.wrap64_in _ (by omega)
    have hv2 : wrap64 (c.segs * (c.slots + 1)) = c.segs * (c.slots + 1) := IntWalk.wrap64_in _ (by omega)
    have hv3 : wrap64 (2 + c.segs * (c.slots + 1)) = 2 + c.segs * (c.slots + 1) := IntWalk.wrap64_in _ (by omega)
    clear hm hbd hs hl
    go_enter Tryz.func31,Tryz.ntmps31
    go_wp2_with (go_at_call 30;(with_reducible refine (hq _).mono ?_);rintro e w1 ⟨rfl,hB⟩;have hc1 := hc.below hB hc.lt;have c0 : w1.cell? ⟨w.heap.size,0,none⟩ = some (.int .i64 c.segs) := hc1.cell 0;have c1 : w1.cell? ⟨w.heap.size,1,none⟩ = some (.int .i64 c.slots) := hc1.cell 1;clear hq)
    go_ret
    exact ⟨rfl,((Newer.refl w).alloc _).trans hB⟩
def Cnf.small (c : Cnf) : Cnf := if c.may = true then { c with segs := 4 + c.segs % 3,slots := 1 + c.slots % 5 } else c
theorem Cnf.small_may (c : Cnf) : c.small.may = c.may := by
  unfold Cnf.small
  cases hm : c.may with
  | false => rw [if_neg (by simp),hm]
  | true =>
    rw [if_pos rfl]
    unfold Cnf.may at hm
    simp only [Bool.and_eq_true,decide_eq_true_eq] at hm
    obtain ⟨⟨⟨h1,h2⟩,h3⟩,h4⟩ := hm
    show (decide (4 ≤ 4 + c.segs % 3 ∧ 4 + c.segs % 3 ≤ 16) && decide (1 ≤ 1 + c.slots % 5 ∧ 1 + c.slots % 5 ≤ 30) && decide (0 ≤ c.rate ∧ c.rate ≤ 8) && shareOK c.share) = true
    rw [decide_eq_true (by omega),decide_eq_true (by omega),decide_eq_true h3,h4]
    rfl
theorem Cnf.small_in {c : Cnf} (h : c.may = true) : (4 ≤ c.small.segs ∧ c.small.segs ≤ 6) ∧ (1 ≤ c.small.slots ∧ c.small.slots ≤ 5) := by
  unfold Cnf.small
  rw [if_pos h]
  show (4 ≤ 4 + c.segs % 3 ∧ 4 + c.segs % 3 ≤ 6) ∧ (1 ≤ 1 + c.slots % 5 ∧ 1 + c.slots % 5 ≤ 5)
  omega
theorem Cnf.small_share (c : Cnf) : c.small.share = c.share := by unfold Cnf.small;split <;> rfl
set_option maxHeartbeats 8000000 in
theorem Small_any (c : Cnf) (hb : c.share < 18446744073709551616) (w : World) : Calls Tryz.prog 11 #[.agg c.cells] w fun e w' => e = .returned (.agg c.small.cells) ∧ Newer w w' := by
  have hq := fun v => May_any c hb v
  have hS := Now.pushCells (Now.pushCells (Sep.start w) 24 c.cells) 24 #[.int .i64 0, .int .i64 0, .float .f64 0, .int .i64 0]
  simp only [World.size_alloc] at hS
  unfold Cnf.small
  cases hm : c.may with
  | false =>
    rw [hm] at hq
    rw [if_neg (by simp)]
    clear hm
    go_enter Tryz.func11,Tryz.ntmps11
    go_wp2_with (go_at_call 30;(with_reducible refine (hq _).mono ?_);rintro e w1 ⟨rfl,hB⟩;have hS1 := Now.below hS hB;have hc := Now.blk (pre:=[_]) hS1;have hr := Now.blk (pre:=[]) hS1;have c0 : w1.cell? ⟨w.heap.size,0,none⟩ = some (.int .i64 c.segs) := hc.cell 0;have c1 : w1.cell? ⟨w.heap.size,1,none⟩ = some (.int .i64 c.slots) := hc.cell 1;have c2 : w1.cell? ⟨w.heap.size,2,none⟩ = some (.float .f64 c.share) := hc.cell 2;have c3 : w1.cell? ⟨w.heap.size,3,none⟩ = some (.int .i64 c.rate) := hc.cell 3;have r0 : w1.cell? ⟨w.heap.size + 1,0,none⟩ = some (.int .i64 0) := hr.cell 0;have r1 : w1.cell? ⟨w.heap.size + 1,1,none⟩ = some (.int .i64 0) := hr.cell 1;have r2 : w1.cell? ⟨w.heap.size + 1,2,none⟩ = some (.float .f64 0) := hr.cell 2;have r3 : w1.cell? ⟨w.heap.size + 1,3,none⟩ = some (.int .i64 0) := hr.cell 3;have fr := fun k => hr.frozen k;clear hq hS hB hc hr)
    have hS2 := Now.set_ (pre:=[]) (Now.set_ (pre:=[]) (Now.set_ (pre:=[]) (Now.set_ (pre:=[]) hS1 0 (.int .i64 c.segs)) 1 (.int .i64 c.slots)) 2 (.float .f64 c.share)) 3 (.int .i64 c.rate)
    refine bodyPost_ret (v := .agg c.cells) ?_ rfl ⟨rfl,Sep.base hS2⟩
    exact results_cell_row rfl _ _ _ _ _ (0,0) _ (by simp) (Now.blk (pre:=[]) hS2) Tryz.underlying24 rfl (by kernel_rfl)
  | true =>
    rw [hm] at hq
    rw [if_pos rfl]
    obtain ⟨hs,hl⟩ := Cnf.may_in hm
    have hm1 : c.segs.tmod 3 = c.segs % 3 := Int.tmod_eq_emod_of_nonneg (by omega)
    have hm2 : c.slots.tmod 5 = c.slots % 5 := Int.tmod_eq_emod_of_nonneg (by omega)
    have hb1 : 0 ≤ c.segs % 3 ∧ c.segs % 3 < 3 := by omega
    have hb2 : 0 ≤ c.slots % 5 ∧ c.slots % 5 < 5 := by omega
    generalize c.segs % 3 = x at *
    generalize c.slots % 5 = y at *
    have hv1 : wrap64 (4 + x) = 4 + x := IntWalk.wrap64_in _ (by omega)
    have hv2 : wrap64 (1 + y) = 1 + y := IntWalk.wrap64_in _ (by omega)
    clear hm hs hl hb1 hb2
    go_enter Tryz.func11,Tryz.ntmps11
    go_wp2_with (go_at_call 30;(with_reducible refine (hq _).mono ?_);rintro e w1 ⟨rfl,hB⟩;have hS1 := Now.below hS hB;have hc := Now.blk (pre:=[_]) hS1;have hr := Now.blk (pre:=[]) hS1;have c0 : w1.cell? ⟨w.heap.size,0,none⟩ = some (.int .i64 c.segs) := hc.cell 0;have c1 : w1.cell? ⟨w.heap.size,1,none⟩ = some (.int .i64 c.slots) := hc.cell 1;have c2 : w1.cell? ⟨w.heap.size,2,none⟩ = some (.float .f64 c.share) := hc.cell 2;have c3 : w1.cell? ⟨w.heap.size,3,none⟩ = some (.int .i64 c.rate) := hc.cell 3;have r0 : w1.cell? ⟨w.heap.size + 1,0,none⟩ = some (.int .i64 0) := hr.cell 0;have r1 : w1.cell? ⟨w.heap.size + 1,1,none⟩ = some (.int .i64 0) := hr.cell 1;have r2 : w1.cell? ⟨w.heap.size + 1,2,none⟩ = some (.float .f64 0) := hr.cell 2;have r3 : w1.cell? ⟨w.heap.size + 1,3,none⟩ = some (.int .i64 0) := hr.cell 3;have fc := fun k => hc.frozen k;have fr := fun k => hr.frozen k;clear hq hS hB hc hr)
    have hS2 := Now.set_ (pre:=[]) (Now.set_ (pre:=[]) (Now.set_ (pre:=[]) (Now.set_ (pre:=[]) (Now.set_ (pre:=[_]) (Now.set_ (pre:=[_]) hS1 0 (.int .i64 (4 + x))) 1 (.int .i64 (1 + y))) 0 (.int .i64 (4 + x))) 1 (.int .i64 (1 + y))) 2 (.float .f64 c.share)) 3 (.int .i64 c.rate)
    refine bodyPost_ret (v := .agg #[.int .i64 (4 + x), .int .i64 (1 + y), .float .f64 c.share, .int .i64 c.rate]) ?_ rfl ⟨rfl,Sep.base hS2⟩
    exact results_cell_row rfl _ _ _ _ _ (0,0) _ (by simp) (Now.blk (pre:=[]) hS2) Tryz.underlying24 rfl (by kernel_rfl)
end Go.Proofs.YtidacaihmjdmkaaGreat
namespace Go.Proofs.YtidacaihmjdmkaaGreat
open Go.RowKit
attribute [local go_sem high] run_mx run_mn
set_option maxHeartbeats 8000000 in
theorem Format_arg (gd : Nat) (d : Dsk) (c : Cnf) (hb : c.share < 18446744073709551616) (hm : c.may = false) {S0 : Nat → Prop} {w0 w : World} {L : List Thing} (hS : Now S0 w0 w (dskT gd d :: L)) :
    Calls Tryz.prog 32 #[.pointer (some ⟨gd,0,none⟩), .agg c.cells] w fun e w' => e = .returned (.tuple #[.pointer none, .int .i64 1]) ∧ Now S0 w0 w' (dskT gd d :: L) := by
  have hq := fun v => Conf_any c hb v
  rw [hm] at hq
  clear hm
  have hS1 := Now.back (pre:=[_]) (Now.pushCells hS 24 c.cells)
  have hc := Now.blk (pre:=[_]) hS1
  have c0 : _ = some (Value.int .i64 c.segs) := hc.cell 0
  have c1 : _ = some (Value.int .i64 c.slots) := hc.cell 1
  have c2 : _ = some (Value.float .f64 c.share) := hc.cell 2
  have c3 : _ = some (Value.int .i64 c.rate) := hc.cell 3
  clear hc hS
  go_enter Tryz.func32,Tryz.ntmps32
  go_wp2_with (go_at_call 74;(with_reducible refine (hq _).mono ?_);rintro e w1 ⟨rfl,hB⟩;have hS2 := Now.below hS1 hB;clear hS1 hq c0 c1 c2 c3)
  refine bodyPost_ret (v := .tuple #[.pointer none, .int .i64 1]) ?_ rfl ⟨rfl,Now.drop (pre:=[_]) hS2⟩
  rw [results_tmp2 rfl]
  simp
set_option maxHeartbeats 8000000 in
theorem Format_full (gd : Nat) (d : Dsk) (c : Cnf) (hb : c.share < 18446744073709551616) (hm : c.may = true) (hn : d.n < c.sectors) {S0 : Nat → Prop} {w0 w : World} {L : List Thing} (hS : Now S0 w0 w (dskT gd d :: L)) :
    Calls Tryz.prog 32 #[.pointer (some ⟨gd,0,none⟩), .agg c.cells] w fun e w' => e = .returned (.tuple #[.pointer none, .int .i64 10]) ∧ Now S0 w0 w' (dskT gd d :: L) := by
  have hq := fun v => Conf_any c hb v
  rw [hm] at hq
  clear hm
  have hS1 := Now.back (pre:=[_]) (Now.pushCells hS 24 c.cells)
  have hc := Now.blk (pre:=[_]) hS1
  have c0 : _ = some (Value.int .i64 c.segs) := hc.cell 0
  have c1 : _ = some (Value.int .i64 c.slots) := hc.cell 1
  have c2 : _ = some (Value.float .f64 c.share) := hc.cell 2
  have c3 : _ = some (Value.int .i64 c.rate) := hc.cell 3
  clear hc hS
  go_enter Tryz.func32,Tryz.ntmps32
  go_wp2_with (go_at_call 74;(with_reducible refine (hq _).mono ?_);rintro e w1 ⟨rfl,hB⟩;have hS2 := Now.below hS1 hB;clear hS1 hq c0 c1 c2 c3)
  have hc := Now.blk (pre:=[_]) hS2
  obtain ⟨SD,hSD⟩ := Now.get (pre:=[]) hS2
  have hcell : ∀ v,Newer w1.drew v → v.cell? ⟨w.heap.size,0,none⟩ = some (.int .i64 c.segs) ∧ v.cell? ⟨w.heap.size,1,none⟩ = some (.int .i64 c.slots) ∧ v.cell? ⟨w.heap.size,2,none⟩ = some (.float .f64 c.share) ∧ v.cell? ⟨w.heap.size,3,none⟩ = some (.int .i64 c.rate) := fun v hv => by
    have h2 := hc.below hv.undrew hc.lt
    exact ⟨h2.cell 0,h2.cell 1,h2.cell 2,h2.cell 3⟩
  have hln := fun v (hv : Newer w1.drew v) => NLen gd d v SD ((dskT gd d).keep hSD (Fr.of_below hv.undrew) (fun k hk hn => absurd ((dskT gd d).lt hSD hk) (Nat.not_lt.2 hn)))
  have hsc := fun v => Sectors_any c hb v
  have hS3 := hS2.drew
  clear hS2 hc hSD
  refine wp_region_ord Newer.grow [(0,true),(1,true),(2,true),(3,true),(4,true)] [] (by kernel_rfl) (by kernel_rfl) rfl (by kernel_rfl) (by intro _ _ d _ _ h;cases d <;> exact h) ?_
  iterate 5
    (apply wpOrd_take
     · exact rfl
     · intro w1 h1
       (obtain ⟨c0,c1,c2,c3⟩ := hcell w1 h1)
       go_simp
       first
         | with_reducible exact ⟨rfl,sqN _⟩
         | with_reducible exact hln _ h1 | with_reducible exact hsc _
     simp only [Act.put,sqA,sqB,sqC])
  refine wpOrd_done fun w3 h3 => ?_
  replace hS3 := Now.below hS3 h3
  clear hcell hln hsc h3
  go_wp2_with fail
  refine bodyPost_ret (v := .tuple #[.pointer none, .int .i64 10]) ?_ rfl ⟨rfl,Now.drop (pre:=[_]) hS3⟩
  rw [results_tmp2 rfl]
  simp
def fmtC (c : Cnf) : Chk := (newTab c.segs c.slots 1).chk 1 1 1 0
theorem newTab_ok (segs slots first : Int) (h1 : 4 ≤ segs ∧ segs ≤ 16) (h2 : 1 ≤ slots ∧ slots ≤ 30) (h3 : 0 ≤ first ∧ first < 18446744073709551616) : (newTab segs slots first).Ok :=
  ⟨h1,h2,by show 1 ≤ 1;omega,by show 1 ≤ 16;omega,rfl,rfl,fun s hs => by
    have : s = 0 := by simpa [newTab] using hs
    show 0 ≤ s ∧ s < segs
    omega,by simp [newTab],fun l hl => by
    have : l = 0 := by simpa [newTab] using hl
    show 0 ≤ l ∧ l ≤ slots
    omega,fun f hf => by
    have : f = first := by simpa [newTab] using hf
    omega⟩
set_option maxHeartbeats 8000000 in
theorem Format_ok (gd : Nat) (d : Dsk) (hp : d.pend.length ≤ 1000000) (c : Cnf) (hb : c.share < 18446744073709551616) (hm : c.may = true) (hn : c.sectors ≤ d.n) (D : Dsk) (hD : ckDo d 0 ⟨(fmtC c).enc.toArray⟩ = (0,1,D)) {S0 : Nat → Prop} {w0 w : World} {L : List Thing} (hS : Now S0 w0 w (dskT gd d :: L)) :
    Calls Tryz.prog 32 #[.pointer (some ⟨gd,0,none⟩), .agg c.cells] w fun e w' => ∃ g,e = .returned (.tuple #[.pointer (some ⟨g,0,none⟩), .int .i64 0]) ∧ ∃ A1 k1 A2 k2 A3 k3,Now S0 w0 w' (logParts g gd (newTab c.segs c.slots 1) A1 k1 A2 k2 A3 k3 1 1 1 D ++ L) := by
  have hq := fun v => Conf_any c hb v
  rw [hm] at hq
  obtain ⟨hs1,hs2⟩ := Cnf.may_in hm
  have hT := newTab_ok c.segs c.slots 1 hs1 hs2 (by omega)
  have hnw := fun v => New_tab c.segs c.slots 1 hs1 hs2 v
  have hck := fun g AO cO AL cL AF cF v (M : List Thing) (h : Now S0 w0 v (logParts g gd (newTab c.segs c.slots 1) AO cO AL cL AF cF 1 1 0 d ++ M)) => Checkpoint_any g gd (newTab c.segs c.slots 1) hT AO cO AL cL AF cF 1 1 0 0 d hp (by omega) (by omega) (by omega) (by omega) h
  have hat := fun AO cO AL cL AF cF v => At_any gd (newTab c.segs c.slots 1) AO cO AL cL AF cF 1 1 0 v
  change ckDo d 0 ⟨((newTab c.segs c.slots 1).chk (0 + 1) 1 1 0).enc.toArray⟩ = (0,1,D) at hD
  simp only [hD] at hck
  clear hD hm hT hs1 hs2
  generalize newTab c.segs c.slots 1 = T at *
  have hS1 := Now.back (pre:=[_]) (Now.pushCells hS 24 c.cells)
  have hc := Now.blk (pre:=[_]) hS1
  have c0 : _ = some (Value.int .i64 c.segs) := hc.cell 0
  have c1 : _ = some (Value.int .i64 c.slots) := hc.cell 1
  have c2 : _ = some (Value.float .f64 c.share) := hc.cell 2
  have c3 : _ = some (Value.int .i64 c.rate) := hc.cell 3
  clear hc hS
  go_enter Tryz.func32,Tryz.ntmps32
  go_wp2_with (go_at_call 74;(with_reducible refine (hq _).mono ?_);rintro e w1 ⟨rfl,hB⟩;have hS2 := Now.below hS1 hB;clear hS1 hq c0 c1 c2 c3)
  have hc := Now.blk (pre:=[_]) hS2
  obtain ⟨SD,hSD⟩ := Now.get (pre:=[]) hS2
  have hcell : ∀ v,Newer w1.drew v → v.cell? ⟨w.heap.size,0,none⟩ = some (.int .i64 c.segs) ∧ v.cell? ⟨w.heap.size,1,none⟩ = some (.int .i64 c.slots) ∧ v.cell? ⟨w.heap.size,2,none⟩ = some (.float .f64 c.share) ∧ v.cell? ⟨w.heap.size,3,none⟩ = some (.int .i64 c.rate) := fun v hv => by
    have h2 := hc.below hv.undrew hc.lt
    exact ⟨h2.cell 0,h2.cell 1,h2.cell 2,h2.cell 3⟩
  have hln := fun v (hv : Newer w1.drew v) => NLen gd d v SD ((dskT gd d).keep hSD (Fr.of_below hv.undrew) (fun k hk hn => absurd ((dskT gd d).lt hSD hk) (Nat.not_lt.2 hn)))
  have hsc := fun v => Sectors_any c hb v
  have hS3 := hS2.drew
  clear hS2 hc hSD
  refine wp_region_ord Newer.grow [(0,true),(1,true),(2,true),(3,true),(4,true)] [] (by kernel_rfl) (by kernel_rfl) rfl (by kernel_rfl) (by intro _ _ d _ _ h;cases d <;> exact h) ?_
  iterate 5
    (apply wpOrd_take
     · exact rfl
     · intro w1 h1
       (obtain ⟨c0,c1,c2,c3⟩ := hcell w1 h1)
       go_simp
       first
         | with_reducible exact ⟨rfl,sqN _⟩
         | with_reducible exact hln _ h1 | with_reducible exact hsc _
     simp only [Act.put,sqA,sqB,sqC])
  refine wpOrd_done fun w3 h3 => ?_
  replace hS3 := Now.below hS3 h3
  clear hcell hln hsc h3
  have hc := Now.blk (pre:=[_]) hS3
  have c0 : w3.cell? ⟨w.heap.size,0,none⟩ = some (Value.int .i64 c.segs) := hc.cell 0
  have c1 : w3.cell? ⟨w.heap.size,1,none⟩ = some (Value.int .i64 c.slots) := hc.cell 1
  clear hc
  go_wp2_with (first
    | (go_at_call 91;(with_reducible refine (hnw _).mono ?_);rintro e w4 ⟨A1,k1,A2,k2,A3,k3,rfl,hO⟩;have hS4 := Now.pushCells (Now.pushAll hS3 hO) 64 (tabCells T A1 k1 A2 k2 A3 k3);clear hS3 hnw hO c0 c1)
    | (go_at_call 92;(with_reducible refine (hat A1 k1 A2 k2 A3 k3 _).mono ?_);rintro e w5 ⟨g,rfl,hO⟩;have hS5 := Now.pushAll hS4 hO;have hS6 := Now.back (pre:=[_,_,_,_]) (Now.front (pre:=[_,_,_,_]) (Now.drop (pre:=[_]) hS5));clear hS4 hS5 hat hO)
    | (go_at_call 65;refine (hck g A1 k1 A2 k2 A3 k3 _ _ hS6).mono ?_;rintro e w6 ⟨rfl,hS7⟩;clear hck hS6))
  refine bodyPost_ret (v := .tuple #[.pointer (some ⟨g,0,none⟩), .int .i64 0]) ?_ rfl ⟨g,rfl,A1,k1,A2,k2,A3,k3,Now.drop (pre:=[_,_,_,_,_]) hS7⟩
  rw [results_tmp2 rfl]
  simp
end Go.Proofs.YtidacaihmjdmkaaGreat
namespace Go.Proofs.YtidacaihmjdmkaaGreat
open Go.RowKit
attribute [local go_sem high] run_mx run_mn
theorem results_tmp3 {fn : Func} {t u v : Tmp} (h : fn.results = #[.tmp t, .tmp u, .tmp v]) (tmps : Array Value) (P : Program) (w : World) :
    (results fn tmps).run P w = .ok (.tuple #[tmps.getD t undef,tmps.getD u undef,tmps.getD v undef]) w := by
  simp [results,h]
def fmtD (n : Int) (s : ByteArray) : Dsk := (((newDsk n).flushS).writeS 1 s).flushS
theorem ckDo_new (n : Int) (hn : 2 ≤ n) (s : ByteArray) (hs : s.size = 128) : ckDo (newDsk n) 0 s = (0,1,fmtD n s) := by
  have e1 : (newDsk n).flushE = 0 := rfl
  have e2 : ((newDsk n).flushS).writeE 1 s = 0 := by
    unfold Dsk.writeE
    rw [if_pos (by show (0 : Int) ≤ 1 ∧ 1 < n;omega),if_pos hs]
    rfl
  have e3 : (((newDsk n).flushS).writeS 1 s).flushE = 0 := by
    unfold Dsk.writeS
    rw [e2,if_pos rfl]
    rfl
  unfold ckDo
  have e0 : ((0 : Int) + 1) % 2 = 1 := rfl
  rw [e0,e1,e2,e3]
  rfl
theorem lists_length (C : Chk) (b : List UInt8) : ∀ k,(C.lists b k).length = b.length
  | 0 => rfl
  | k + 1 => by
    show (((C.lists b k).set _ _).set _ _).length = _
    rw [List.length_set,List.length_set,lists_length C b k]
theorem head_length (C : Chk) : C.head.length = 128 := by
  unfold Chk.head
  have h0 : (List.replicate 128 (0 : UInt8)).length = 128 := List.length_replicate
  have h1 := laidAt_length (List.replicate 128 (0 : UInt8)) 0 (leB C.gen 8) (by rw [leB_len,h0];omega)
  have h2 := laidAt_length (laidAt (List.replicate 128 (0 : UInt8)) 0 (leB C.gen 8)) 8 (leB C.epoch 4) (by rw [leB_len,h1,h0];omega)
  have h3 := laidAt_length (laidAt (laidAt (List.replicate 128 (0 : UInt8)) 0 (leB C.gen 8)) 8 (leB C.epoch 4)) 12 (leB C.lsn 8) (by rw [leB_len,h2,h1,h0];omega)
  have h4 := laidAt_length (laidAt (laidAt (laidAt (List.replicate 128 (0 : UInt8)) 0 (leB C.gen 8)) 8 (leB C.epoch 4)) 12 (leB C.lsn 8)) 20 (leB C.ver 8) (by rw [leB_len,h3,h2,h1,h0];omega)
  rw [List.length_set,h4,h3,h2,h1,h0]
theorem enc_length (C : Chk) : C.enc.length = 128 := by
  have hb : C.body.length = 128 := by unfold Chk.body;rw [lists_length,head_length]
  unfold Chk.enc
  have h1 := laidAt_length C.body 116 (leB (crcOf (C.body.take 116)) 4) (by rw [leB_len,hb];omega)
  have h2 := laidAt_length (laidAt C.body 116 (leB (crcOf (C.body.take 116)) 4)) 120 (leB C.gen 8) (by rw [leB_len,h1,hb];omega)
  rw [h2,h1,hb]
theorem enc_size (C : Chk) : (⟨C.enc.toArray⟩ : ByteArray).size = 128 := by
  show C.enc.toArray.size = 128
  rw [List.size_toArray,enc_length]
theorem New_sep (n : Int) (w : World) (h : 1 ≤ n) (h' : n ≤ 4096) :
    Calls Tryz.prog 21 #[.int .i64 n] w fun e w' => ∃ gd,e = .returned (.tuple #[.pointer (some ⟨gd,0,none⟩), .int .i64 0]) ∧ Sep w w' [dskT gd (newDsk n)] :=
  (New_ok n w h h').mono fun e w' ⟨he,hd,hb⟩ => ⟨w.heap.size + 1,he,Now.push (Sep.start w) hb (S' := foot (w.heap.size + 1) w.heap.size (.slice none 0 0)) ⟨_,_,hd,fun _ => Iff.rfl⟩ (fun k hk => by
    rcases hk with rfl | rfl | hk
    · omega
    · omega
    · simp [Value.ownBlock] at hk)⟩
def madeD (n : Int) (c : Cnf) : Dsk := fmtD n ⟨(fmtC c).enc.toArray⟩
set_option maxHeartbeats 8000000 in
theorem made_ok (n : Int) (c : Cnf) (hb : c.share < 18446744073709551616) (hm : c.may = true) (hn : c.sectors ≤ n) (hn2 : n ≤ 4096) (w : World) :
    Calls Tryz.prog 12 #[.int .i64 n, .agg c.cells] w fun e w' => ∃ g gd,e = .returned (.tuple #[.pointer (some ⟨g,0,none⟩), .pointer (some ⟨gd,0,none⟩), .int .i64 0]) ∧ ∃ A1 k1 A2 k2 A3 k3,Sep w w' (logParts g gd (newTab c.segs c.slots 1) A1 k1 A2 k2 A3 k3 1 1 1 (madeD n c)) := by
  obtain ⟨hs1,hs2⟩ := Cnf.may_in hm
  have h8 : 2 ≤ n := by
    have h1 := sec_bound c.segs c.slots hs1 hs2
    unfold Cnf.sectors at hn
    rw [if_pos hm] at hn
    omega
  have hT := newTab_ok c.segs c.slots 1 hs1 hs2 (by omega)
  have hck := ckDo_new n h8 ⟨(fmtC c).enc.toArray⟩ (enc_size _)
  have hfm := fun gd v (h : Now (fun _ => False) w v (dskT gd (newDsk n) :: [Thing.cells w.heap.size 24 c.cells])) => Format_ok gd (newDsk n) (by show 0 ≤ 1000000;omega) c hb hm hn _ hck h
  have hnw := fun v => New_sep n v (by omega) hn2
  have hS := Now.pushCells (Sep.start w) 24 c.cells
  change ∀ gd v,_ → Calls _ _ _ _ fun e w' => ∃ g,_ ∧ ∃ A1 k1 A2 k2 A3 k3,Now _ _ _ (logParts _ _ _ _ _ _ _ _ _ _ _ _ (madeD n c) ++ _) at hfm
  clear hck hT hs1 hs2 h8
  go_enter Tryz.func12,Tryz.ntmps12
  go_wp2_with (first
    | (go_at_call 21;(with_reducible refine (hnw _).mono ?_);rintro e w1 ⟨gd,rfl,hO⟩;have hS1 := Now.pushAll hS hO;have hc := Now.blk (pre:=[_]) hS1;have c0 : w1.cell? ⟨w.heap.size,0,none⟩ = some (Value.int .i64 c.segs) := hc.cell 0;have c1 : w1.cell? ⟨w.heap.size,1,none⟩ = some (Value.int .i64 c.slots) := hc.cell 1;have c2 : w1.cell? ⟨w.heap.size,2,none⟩ = some (Value.float .f64 c.share) := hc.cell 2;have c3 : w1.cell? ⟨w.heap.size,3,none⟩ = some (Value.int .i64 c.rate) := hc.cell 3;clear hS hO hnw hc)
    | (go_at_call 32;refine (hfm gd _ hS1).mono ?_;rintro e w2 ⟨g,rfl,A1,k1,A2,k2,A3,k3,hS2⟩;clear hfm hS1 c0 c1 c2 c3))
  refine bodyPost_ret (v := .tuple #[.pointer (some ⟨g,0,none⟩), .pointer (some ⟨gd,0,none⟩), .int .i64 0]) ?_ rfl ⟨g,gd,rfl,A1,k1,A2,k2,A3,k3,Now.drop (pre:=[_,_,_,_,_]) hS2⟩
  rw [results_tmp3 rfl]
  simp
set_option maxHeartbeats 8000000 in
theorem made_full (n : Int) (c : Cnf) (hb : c.share < 18446744073709551616) (hm : c.may = true) (hn : n < c.sectors) (hn1 : 1 ≤ n) (hn2 : n ≤ 4096) (w : World) :
    Calls Tryz.prog 12 #[.int .i64 n, .agg c.cells] w fun e w' => ∃ gd,e = .returned (.tuple #[.pointer none, .pointer (some ⟨gd,0,none⟩), .int .i64 10]) ∧ Newer w w' := by
  have hfm := fun gd v (h : Now (fun _ => False) w v (dskT gd (newDsk n) :: [Thing.cells w.heap.size 24 c.cells])) => Format_full gd (newDsk n) c hb hm hn h
  have hnw := fun v => New_sep n v hn1 hn2
  have hS := Now.pushCells (Sep.start w) 24 c.cells
  go_enter Tryz.func12,Tryz.ntmps12
  go_wp2_with (first
    | (go_at_call 21;(with_reducible refine (hnw _).mono ?_);rintro e w1 ⟨gd,rfl,hO⟩;have hS1 := Now.pushAll hS hO;have hc := Now.blk (pre:=[_]) hS1;have c0 : w1.cell? ⟨w.heap.size,0,none⟩ = some (Value.int .i64 c.segs) := hc.cell 0;have c1 : w1.cell? ⟨w.heap.size,1,none⟩ = some (Value.int .i64 c.slots) := hc.cell 1;have c2 : w1.cell? ⟨w.heap.size,2,none⟩ = some (Value.float .f64 c.share) := hc.cell 2;have c3 : w1.cell? ⟨w.heap.size,3,none⟩ = some (Value.int .i64 c.rate) := hc.cell 3;clear hS hO hnw hc)
    | (go_at_call 32;refine (hfm gd _ hS1).mono ?_;rintro e w2 ⟨rfl,hS2⟩;clear hfm hS1 c0 c1 c2 c3))
  refine bodyPost_ret (v := .tuple #[.pointer none, .pointer (some ⟨gd,0,none⟩), .int .i64 10]) ?_ rfl ⟨gd,rfl,Sep.base hS2⟩
  rw [results_tmp3 rfl]
  simp
set_option maxHeartbeats 8000000 in
theorem made_arg (n : Int) (c : Cnf) (hb : c.share < 18446744073709551616) (hm : c.may = false) (hn1 : 1 ≤ n) (hn2 : n ≤ 4096) (w : World) :
    Calls Tryz.prog 12 #[.int .i64 n, .agg c.cells] w fun e w' => ∃ gd,e = .returned (.tuple #[.pointer none, .pointer (some ⟨gd,0,none⟩), .int .i64 1]) ∧ Newer w w' := by
  have hfm := fun gd v (h : Now (fun _ => False) w v (dskT gd (newDsk n) :: [Thing.cells w.heap.size 24 c.cells])) => Format_arg gd (newDsk n) c hb hm h
  have hnw := fun v => New_sep n v hn1 hn2
  have hS := Now.pushCells (Sep.start w) 24 c.cells
  go_enter Tryz.func12,Tryz.ntmps12
  go_wp2_with (first
    | (go_at_call 21;(with_reducible refine (hnw _).mono ?_);rintro e w1 ⟨gd,rfl,hO⟩;have hS1 := Now.pushAll hS hO;have hc := Now.blk (pre:=[_]) hS1;have c0 : w1.cell? ⟨w.heap.size,0,none⟩ = some (Value.int .i64 c.segs) := hc.cell 0;have c1 : w1.cell? ⟨w.heap.size,1,none⟩ = some (Value.int .i64 c.slots) := hc.cell 1;have c2 : w1.cell? ⟨w.heap.size,2,none⟩ = some (Value.float .f64 c.share) := hc.cell 2;have c3 : w1.cell? ⟨w.heap.size,3,none⟩ = some (Value.int .i64 c.rate) := hc.cell 3;clear hS hO hnw hc)
    | (go_at_call 32;refine (hfm gd _ hS1).mono ?_;rintro e w2 ⟨rfl,hS2⟩;clear hfm hS1 c0 c1 c2 c3))
  refine bodyPost_ret (v := .tuple #[.pointer none, .pointer (some ⟨gd,0,none⟩), .int .i64 1]) ?_ rfl ⟨gd,rfl,Sep.base hS2⟩
  rw [results_tmp3 rfl]
  simp
def liveR (id : ByteArray) (ver : Int) : Rec := { lsn := 0,epoch := 0,kind := 1,ver := ver,dl := 9,id := id,val := ⟨#[118]⟩ }
set_option maxHeartbeats 2000000 in
theorem live_any (id : ByteArray) (ver : Int) (w : World) : Calls Tryz.prog 55 #[.string id, .int .u64 ver] w fun e w' => e = .returned (liveR id ver).value ∧ Newer w w' := by
  have hS2 := Lib.hid (Now.pushCells (Sep.start w) 46 #[.int .u64 0, .int .u32 0, .int .i64 1, .int .u64 ver, .int .u64 9, .string id, .string ⟨#[118]⟩])
  go_enter Tryz.func55,Tryz.ntmps55
  go_wp2_with fail
  refine bodyPost_ret (v := (liveR id ver).value) ?_ rfl ⟨rfl,Sep.base hS2.out⟩
  exact results_cell_row rfl _ _ _ _ _ (0,0) _ (by simp) (Now.blk (pre:=[]) hS2.out) Tryz.underlying46 rfl (by kernel_rfl)
set_option maxHeartbeats 2000000 in
theorem LRef_any (T : Tab) (AO : Option Addr) (cO : Nat) (AL : Option Addr) (cL : Nat) (AF : Option Addr) (cF : Nat) (w : World) :
    Calls Tryz.prog 38 #[.agg (tabCells T AO cO AL cL AF cF)] w fun e w' => e = .returned (.agg (tabCells T AO cO AL cL AF cF)) ∧ Newer w w' := by
  have hS2 := Now.pushCells (Now.pushCells (Sep.start w) 64 (tabCells T AO cO AL cL AF cF)) 71 (tabCells T AO cO AL cL AF cF)
  simp only [World.size_alloc] at hS2
  replace hS2 := Lib.hid hS2
  go_enter Tryz.func38,Tryz.ntmps38
  go_wp2_with fail
  refine bodyPost_ret (v := .agg (tabCells T AO cO AL cL AF cF)) ?_ rfl ⟨rfl,Sep.base hS2.out⟩
  exact results_cell_row rfl _ _ _ _ _ (0,0) _ (by simp) (Now.blk (pre:=[]) hS2.out) Tryz.underlying71 rfl (by kernel_rfl)
end Go.Proofs.YtidacaihmjdmkaaGreat
namespace Go.Proofs.YtidacaihmjdmkaaGreat
open Go.RowKit Go.Lib
section
variable {P : Program} (w : World) {ops : Array Oper} {rest : List Oper} {o : Oper} {a : Act} {Q : Exit → Act → World → Prop}
theorem copy_cut (dT sT ty elem : TypeId) (d : Option Addr) (dLen dCap : Nat) (s : ByteArray) (hu : P.underlying dT = some (.slice elem)) (hle : dLen ≤ s.size) :
    (Builtin.copy_ #[dT,sT] ty #[.slice d dLen dCap, .string s]).run P w = (Builtin.copy_ #[dT,sT] ty #[.slice d dLen dCap, .string (s.extract 0 dLen)]).run P w := by
  have h1 : Nat.min s.size dLen = dLen := Nat.min_eq_right hle
  have h2 : (s.extract 0 dLen).size = dLen := by rw [ByteArray.size_extract];omega
  have h4 : Nat.min dLen dLen = dLen := Nat.min_self _
  have h3 : (s.extract 0 dLen).extract 0 dLen = s.extract 0 dLen := by
    apply ByteArray.ext
    simp [ByteArray.data_extract]
  simp only [Builtin.copy_,Builtin.lenOf,Builtin.firstCells,List.getElem?_toArray,List.getElem?_cons_zero,List.getElem?_cons_succ,Sem.run_bind,run_underlying hu,Result.andThen_ok,Sem.run_pure,h1,h2,h3,h4]
theorem wpList_copyCut (hgd : o.guard = none) {dT sT e : TypeId} {d x : Operand} (hop : o.op = .call { callee := .builtin .copy,args := #[d,x],argTypes := #[dT,sT] }) (hu : P.underlying dT = some (.slice e)) (hz : ∀ w,(Go.sizeOf e).run P w = .ok 1 w)
    {g n cap : Nat} {l : List UInt8} {s t : ByteArray} (hb : ByteBlk w g l) (hd : a.eval d = .slice (some ⟨g,0,none⟩) n cap) (hx : a.eval x = .string s) (hc : s.extract 0 n = t) (hns : n ≤ s.size) (hl : t.size ≤ l.length)
    (h : ∀ w',ByteBlk w' g (t.data.toList ++ l.drop t.size) → w.grownBy w' (some g) → w'.heap.size = w.heap.size → wpList P ops Q rest (a.put o.dst (goInt t.size)) w') : wpList P ops Q (o :: rest) a w := by
  have hn : t.size ≤ n := by rw [← hc,ByteArray.size_extract];omega
  have hr1 := run_copy_string (P := P) w dT sT o.type e g 0 n cap t hu hz hn (fun j hj => by rw [Nat.zero_add,hb.cell j (by omega)];rfl) (fun j hj => by rw [Nat.zero_add];exact hb.free j (by omega))
  have hrun := copy_cut (P := P) w dT sT o.type e (some ⟨g,0,none⟩) n cap s hu hns
  rw [hc,hr1] at hrun
  have htl : t.data.toList.length = t.size := by rw [Array.length_toList];rfl
  have hlen : (t.data.toList.map fun x => Value.int .u8 (x.toNat : Int)).length = t.size := by rw [List.length_map,htl]
  have hsz : ∀ (vs : List Value) (o : Nat) (w : World),(w.setCells g o vs).heap.size = w.heap.size := by
    intro vs
    induction vs with
    | nil => intro o w;rfl
    | cons v vs ih => intro o w;rw [World.setCells,ih];simp [World.setCell]
  have hkeep : ∀ (vs : List Value) (o : Nat) (w : World),w.grownBy (w.setCells g o vs) (some g) := by
    intro vs
    induction vs with
    | nil => intro o w;exact World.grownBy.refl _ _
    | cons v vs ih =>
      intro o w
      rw [World.setCells]
      exact World.grownBy.trans (b := w.setCell ⟨g,o,none⟩ v) ⟨rfl,rfl,rfl,by simp [World.setCell],fun k _ hk => Below.heap_setCell w ⟨g,o,none⟩ v k (fun e => hk (by rw [e]))⟩ (ih (o + 1) _)
  have hfz : ∀ (vs : List Value) (o : Nat) (w : World) (p : Addr),(w.setCells g o vs).frozen? p = w.frozen? p := by
    intro vs
    induction vs with
    | nil => intro o w p;rfl
    | cons v vs ih => intro o w p;rw [World.setCells,ih];simp
  refine wpList_value w hgd (v := goInt t.size) (w' := w.setCells g 0 (t.data.toList.map fun x => Value.int .u8 (x.toNat : Int))) (by simp only [execOp,hop,resolve,invoke,builtin,Sem.run_bind,Sem.run_pure,Result.andThen_ok,List.map_toArray,List.map_cons,List.map_nil,hd,hx,hrun]) (h _ ⟨fun j hj => ?_,fun j hj => ?_⟩ (hkeep _ _ _) (hsz _ _ _))
  · by_cases hjt : j < t.size
    · have h1 := World.cell?_setCells_in g (t.data.toList.map fun x => Value.int .u8 (x.toNat : Int)) 0 w (fun q hq => by rw [Nat.zero_add,hb.cell q (by omega)];rfl) j (by omega)
      rw [Nat.zero_add] at h1
      rw [h1,List.getElem_append_left (by omega)]
      simp
    · rw [World.cell?_setCells_out g _ 0 w ⟨g,j,none⟩ (fun _ _ => .inr (by rw [hlen];show 0 + t.size ≤ j;omega))]
      rw [hb.cell j (by simp at hj;omega),List.getElem_append_right (by omega)]
      simp [show t.size + (j - t.size) = j by omega,htl]
  · rw [hfz];exact hb.free j (by simp at hj;omega)
end
set_option maxRecDepth 100000 in
set_option maxHeartbeats 4000000 in
theorem Get_long (s : ByteArray) (hs : 8 ≤ s.size) (w : World) :
    Calls Tryz.prog 115 #[.string s] w fun e w' => e = .returned (.int .u64 (leN (s.data.toList.take 8))) ∧ Below w.heap.size w w' := by
  go_enter Tryz.func115,Tryz.ntmps115
  have hb0 : ByteBlk (w.alloc (.cells #[.int .u8 0, .int .u8 0, .int .u8 0, .int .u8 0, .int .u8 0, .int .u8 0, .int .u8 0, .int .u8 0] 239)) w.heap.size (List.replicate 8 0) := by
    have h := Blk.new w 239 #[.int .u8 0, .int .u8 0, .int .u8 0, .int .u8 0, .int .u8 0, .int .u8 0, .int .u8 0, .int .u8 0]
    refine ⟨fun j hj => ?_,fun j _ => h.frozen j⟩
    rw [h.cell]
    have hj : j < 8 := by simpa using hj
    match j,hj with
    | 0,_ => rfl
    | 1,_ => rfl
    | 2,_ => rfl
    | 3,_ => rfl
    | 4,_ => rfl
    | 5,_ => rfl
    | 6,_ => rfl
    | 7,_ => rfl
  obtain ⟨t,ht⟩ : ∃ t,s.extract 0 8 = t := ⟨_,rfl⟩
  have hts : t.size = 8 := by rw [← ht,ByteArray.size_extract];omega
  have htl : t.data.toList = s.data.toList.take 8 := by rw [← ht,ByteArray.data_extract];simp
  have hs8 : t.size ≤ (List.replicate 8 (0 : UInt8)).length := by simpa using Nat.le_of_eq hts
  go_wp2_with (refine wpList_copyCut (o := ⟨some 8,_,_,_,_,_⟩) _ rfl rfl Tryz.underlying100 sizeOf_u8 hb0 rfl rfl ht hs hs8 ?_;intro w1 hb hg hz;clear hb0)
  have hB : Below w.heap.size w w1 := ((Below.refl w.heap.size w).alloc (Nat.le_refl _) _).grown hg (by simp) (fun q e => by cases e;exact Nat.le_refl _)
  have hl8 : (t.data.toList ++ List.drop t.size (List.replicate 8 0)).length = 8 := by
    have : t.data.toList.length = t.size := by rw [Array.length_toList];rfl
    rw [List.length_append,List.length_drop,List.length_replicate,this];omega
  have hN : leN (t.data.toList ++ List.drop t.size (List.replicate 8 0)) = leN (s.data.toList.take 8) := by
    rw [← htl,leN_append,List.drop_replicate,leN_zeros,Nat.mul_zero,Nat.add_zero]
  have HN := Lib.hid hN
  clear hN hs8 hg hz hs hts htl ht
  generalize t.data.toList ++ List.drop t.size (List.replicate 8 0) = l at *
  go_loop [4,9] (fun n i => ∃ j : Nat,j ≤ 8 ∧ i = .int .i64 j ∧ n = .int .u64 (leN (l.take j))) (fun _ i => 8 - (RowKit.intOf i).toNat)
  case atStart => exact ⟨0,by omega,rfl,rfl⟩
  case round =>
    obtain ⟨j,hj,rfl,rfl⟩ := hrel
    by_cases hlt : j < 8
    · have c1 := hb.cell j (by omega)
      have hx := (l[j]'(by omega)).toNat_lt
      have hstep := leN_take_succ l j (by omega)
      have hlow := leN_lt (l.take j)
      rw [List.length_take,hl8,Nat.min_eq_left (by omega)] at hlow
      generalize leN (l.take j) = a at *
      generalize (l[j]'(by omega)).toNat = x at *
      have hor := Lib.hid (or_byte a x j hlow hx hlt)
      go_wp2_with fail
      go_round
      case rel => exact ⟨j + 1,by omega,by go_num,by rw [hor.out,hstep]⟩
      case measure => simp [RowKit.intOf];omega
    · obtain rfl : j = 8 := by omega
      have ht : l.take 8 = l := List.take_of_length_le (by omega)
      have HT := Lib.hid ht
      clear ht
      go_wp2_with fail
      go_ret
      exact ⟨by first | rfl | (rw [← HN.out, ← HT.out];rfl) | (show Ending.returned (.int .u64 (leN _)) = _;rw [HT.out,HN.out]),hB⟩
end Go.Proofs.YtidacaihmjdmkaaGreat
