/- What the laws of this seat lean on, part 16. -/
import Derived.Test.YtidacaihmjdmkaaGreatZK12
import Derived.Test.YtidacaihmjdmkaaGreatZK14
import Derived.Test.YtidacaihmjdmkaaGreatZK15
import Derived.Test.YtidacaihmjdmkaaGreatZK6
import Derived.Test.YtidacaihmjdmkaaGreatZK7
import Derived.Test.YtidacaihmjdmkaaGreatZK1
set_option linter.unusedSimpArgs false
set_option linter.unusedVariables false
set_option maxRecDepth 100000
namespace Go.Proofs.YtidacaihmjdmkaaGreat
open Go.RowKit
attribute [local go_sem high] run_mx run_mn
def LSt.has (s : LSt) (seg slot : Int) : Prop := 0 ≤ idx s.T.order seg ∧ 0 ≤ slot ∧ slot < s.T.len seg
instance (s : LSt) (seg slot : Int) : Decidable (s.has seg slot) := by unfold LSt.has;infer_instance
def LSt.read (s : LSt) (seg slot : Int) : Value := if s.has seg slot then decV (s.d.readV (secOf s.T.slots seg slot)) else .tuple #[noRec.value, .int .i64 3]
theorem NRead (g : Nat) (d : Dsk) (i : Int) (hp : d.pend.length ≤ 1000000000) (w : World) (S : Nat → Prop) (h : (dskT g d).is w S) : Calls Tryz.prog 57 #[.pointer (some ⟨g,0,none⟩), .int .i64 i] w fun e w' => e = .returned (.tuple #[.string (d.readV i), .int .i64 (d.readE i)]) ∧ Newer w w' := by
  obtain ⟨b,v,hD,_⟩ := h
  exact Read_all g b v d i w hD hp
theorem RDecode_any (s : ByteArray) (w : World) : Calls Tryz.prog 58 #[.string s] w fun e w' => e = .returned (decV s) ∧ Below w.heap.size w w' := by
  by_cases h : s.size = 128
  · exact Decode_128 s h w
  · have e : decV s = .tuple #[noRec.value, .int .i64 5] := by
      unfold decV decR
      rw [if_neg (fun h1 => h h1.1)]
    rw [e]
    exact Decode_no s h w
theorem decV_cases (s : ByteArray) : ∃ (r : Rec) (e : Int),decV s = .tuple #[r.value, .int .i64 e] := by
  unfold decV
  cases decR s with
  | none => exact ⟨noRec,5,rfl⟩
  | some r => exact ⟨r,0,rfl⟩
theorem idx_in {l : List Int} {x : Int} (h : 0 ≤ idx l x) : x ∈ l := List.mem_of_getElem? (idx_some h)
set_option maxHeartbeats 8000000 in
theorem Read_none (s : LSt) (hs : s.Ok) (g gd : Nat) (epoch seg slot : Int) (hn : ¬ s.has seg slot) (AO : Option Addr) (cO : Nat) (AL : Option Addr) (cL : Nat) (AF : Option Addr) (cF : Nat)
    {S0 : Nat → Prop} {w0 w : World} {L : List Thing} (hS : Now S0 w0 w (s.parts g gd epoch AO cO AL cL AF cF ++ L)) :
    Calls Tryz.prog 56 #[.pointer (some ⟨g,0,none⟩), .agg #[.int .i64 seg, .int .i64 slot]] w fun e w' => e = .returned (.tuple #[noRec.value, .int .i64 3]) ∧ Now S0 w0 w' (s.parts g gd epoch AO cO AL cL AF cF ++ L) := by
  obtain ⟨T,lsn,gen,d⟩ := s
  have hT : T.Ok := hs.t
  have hpd : d.pend.length ≤ 1000000000 := Nat.le_trans hs.pend (by decide)
  have hmn := hT.many
  have hS1 := Now.pushCells (Now.pushCells hS 90 #[.int .i64 seg, .int .i64 slot]) 46 #[.int .u64 0, .int .u32 0, .int .i64 0, .int .u64 0, .int .u64 0, .string ⟨#[]⟩, .string ⟨#[]⟩]
  simp only [World.size_alloc] at hS1
  unfold LSt.parts at *
  unfold LSt.has at *
  dsimp only at *
  clear hS hs
  go_enter Tryz.func56,Tryz.ntmps56
  go_wp2_with fail
  generalize (w.alloc (.cells #[.int .i64 seg, .int .i64 slot] 90)).alloc (.cells #[.int .u64 0, .int .u32 0, .int .i64 0, .int .u64 0, .int .u64 0, .string ⟨#[]⟩, .string ⟨#[]⟩] 46) = wb at hS1 ⊢
  have hlog := Now.blk (pre:=[_,_]) hS1
  have hloc := Now.blk (pre:=[_]) hS1
  have htab := tabIn_of (pre:=[_,_,_]) hS1
  have hcell : ∀ v,Newer wb.drew v → v.cell? ⟨g,1,none⟩ = some (.int .i64 T.segs) ∧ v.cell? ⟨g,2,none⟩ = some (.int .i64 T.slots) ∧ v.cell? ⟨g,3,none⟩ = some (.slice AO T.order.length cO) ∧ v.cell? ⟨g,4,none⟩ = some (.slice AL T.lens.length cL) ∧ v.cell? ⟨g,5,none⟩ = some (.slice AF T.firsts.length cF) ∧ v.cell? ⟨w.heap.size,0,none⟩ = some (.int .i64 seg) ∧ v.cell? ⟨w.heap.size,1,none⟩ = some (.int .i64 slot) := fun v hv => by
    have hb1 := hlog.below hv.undrew hlog.lt
    have hb2 := hloc.below hv.undrew hloc.lt
    exact ⟨hb1.cell 1,hb1.cell 2,hb1.cell 3,hb1.cell 4,hb1.cell 5,hb2.cell 0,hb2.cell 1⟩
  have hct := fun v (hv : Newer wb.drew v) => Contains_any AO T.order.length cO wb.heap.size T.order seg v (htab.below hv.undrew).o (by omega)
  have hle := fun v (hv : Newer wb.drew v) => Len_tab T hT AO cO AL cL AF cF seg v wb.heap.size hv.size (htab.below hv.undrew)
  have hct' : ∀ v,Newer wb.drew v → Calls Tryz.prog 109 #[.slice AO T.order.length cO, .int .i64 seg] v fun e w' => e = .returned (.bool (decide (0 ≤ idx T.order seg))) ∧ Newer v w' := fun v hv => (hct v hv).mono fun e w' h => ⟨h.1,h.2 ▸ Newer.refl v⟩
  have hS2 := hS1.drew
  clear hS1 hlog hloc htab hct
  by_cases h0 : 0 ≤ idx T.order seg
  case neg =>
    have hd : decide (0 ≤ idx T.order seg) = false := decide_eq_false h0
    rw [hd] at hct'
    clear hd hn
    refine wp_region_ord Newer.grow [(0,true),(1,true),(2,true),(3,true),(4,true),(5,true),(6,true),(7,true),(8,true),(9,true),(10,true),(11,true),(12,true),(13,true),(14,true),(15,true),(16,true),(17,true),(18,true),(19,true),(20,true),(21,true),(22,true),(23,true),(24,true),(25,true)] [] (by kernel_rfl) (by kernel_rfl) rfl (by kernel_rfl) (by intro _ _ d _ _ h;cases d <;> exact h) ?_
    iterate 26
      (apply wpOrd_take
       · exact rfl
       · intro w1 h1
         (obtain ⟨c1,c2,c3,c4,c5,l0,l1⟩ := hcell w1 h1)
         go_simp
         first
           | with_reducible exact ⟨rfl,sqN _⟩
           | with_reducible exact hct' _ h1 | with_reducible exact hle _ h1 | with_reducible exact rfl
       simp only [Act.put,sqA,sqB,sqC])
    refine wpOrd_done fun w3 h3 => ?_
    have hS3 := Now.below hS2 h3
    have hrb := Now.blk (pre:=[]) hS3
    have q0 : w3.cell? ⟨w.heap.size + 1,0,none⟩ = some (.int .u64 0) := hrb.cell 0
    have q1 : w3.cell? ⟨w.heap.size + 1,1,none⟩ = some (.int .u32 0) := hrb.cell 1
    have q2 : w3.cell? ⟨w.heap.size + 1,2,none⟩ = some (.int .i64 0) := hrb.cell 2
    have q3 : w3.cell? ⟨w.heap.size + 1,3,none⟩ = some (.int .u64 0) := hrb.cell 3
    have q4 : w3.cell? ⟨w.heap.size + 1,4,none⟩ = some (.int .u64 0) := hrb.cell 4
    have q5 : w3.cell? ⟨w.heap.size + 1,5,none⟩ = some (.string ⟨#[]⟩) := hrb.cell 5
    have q6 : w3.cell? ⟨w.heap.size + 1,6,none⟩ = some (.string ⟨#[]⟩) := hrb.cell 6
    have fq := fun k => hrb.frozen k
    clear hrb hcell hct' hle hS2 h3
    go_wp2_with fail
    have hS4 := Now.set_ (pre:=[]) (Now.set_ (pre:=[]) (Now.set_ (pre:=[]) (Now.set_ (pre:=[]) (Now.set_ (pre:=[]) (Now.set_ (pre:=[]) (Now.set_ (pre:=[]) hS3 0 (.int .u64 0)) 1 (.int .u32 0)) 2 (.int .i64 0)) 3 (.int .u64 0)) 4 (.int .u64 0)) 5 (.string ⟨#[]⟩)) 6 (.string ⟨#[]⟩)
    refine bodyPost_ret (v := .tuple #[noRec.value, .int .i64 3]) ?_ rfl ⟨rfl,Now.drop (pre:=[]) (Now.drop (pre:=[]) hS4)⟩
    exact results_row_tmp rfl _ _ _ _ _ _ _ (by simp) (by simp) (Now.blk (pre:=[]) hS4) Tryz.underlying46 rfl (by kernel_rfl)
  have hd : decide (0 ≤ idx T.order seg) = true := decide_eq_true h0
  rw [hd] at hct'
  clear hd
  by_cases h2 : slot < 0
  · clear hn
    refine wp_region_ord Newer.grow [(0,true),(1,true),(2,true),(3,true),(4,true),(5,true),(6,true),(7,true),(8,true),(9,true),(10,true),(11,true),(12,true),(13,true),(14,true),(15,true),(16,true),(17,true),(18,true),(19,true),(20,true),(21,true),(22,true),(23,true),(24,true),(25,true)] [] (by kernel_rfl) (by kernel_rfl) rfl (by kernel_rfl) (by intro _ _ d _ _ h;cases d <;> exact h) ?_
    iterate 26
      (apply wpOrd_take
       · exact rfl
       · intro w1 h1
         (obtain ⟨c1,c2,c3,c4,c5,l0,l1⟩ := hcell w1 h1)
         go_simp
         first
           | with_reducible exact ⟨rfl,sqN _⟩
           | with_reducible exact hct' _ h1 | with_reducible exact hle _ h1 | with_reducible exact rfl
       simp only [Act.put,sqA,sqB,sqC])
    refine wpOrd_done fun w3 h3 => ?_
    have hS3 := Now.below hS2 h3
    have hrb := Now.blk (pre:=[]) hS3
    have q0 : w3.cell? ⟨w.heap.size + 1,0,none⟩ = some (.int .u64 0) := hrb.cell 0
    have q1 : w3.cell? ⟨w.heap.size + 1,1,none⟩ = some (.int .u32 0) := hrb.cell 1
    have q2 : w3.cell? ⟨w.heap.size + 1,2,none⟩ = some (.int .i64 0) := hrb.cell 2
    have q3 : w3.cell? ⟨w.heap.size + 1,3,none⟩ = some (.int .u64 0) := hrb.cell 3
    have q4 : w3.cell? ⟨w.heap.size + 1,4,none⟩ = some (.int .u64 0) := hrb.cell 4
    have q5 : w3.cell? ⟨w.heap.size + 1,5,none⟩ = some (.string ⟨#[]⟩) := hrb.cell 5
    have q6 : w3.cell? ⟨w.heap.size + 1,6,none⟩ = some (.string ⟨#[]⟩) := hrb.cell 6
    have fq := fun k => hrb.frozen k
    clear hrb hcell hct' hle hS2 h3
    go_wp2_with fail
    have hS4 := Now.set_ (pre:=[]) (Now.set_ (pre:=[]) (Now.set_ (pre:=[]) (Now.set_ (pre:=[]) (Now.set_ (pre:=[]) (Now.set_ (pre:=[]) (Now.set_ (pre:=[]) hS3 0 (.int .u64 0)) 1 (.int .u32 0)) 2 (.int .i64 0)) 3 (.int .u64 0)) 4 (.int .u64 0)) 5 (.string ⟨#[]⟩)) 6 (.string ⟨#[]⟩)
    refine bodyPost_ret (v := .tuple #[noRec.value, .int .i64 3]) ?_ rfl ⟨rfl,Now.drop (pre:=[]) (Now.drop (pre:=[]) hS4)⟩
    exact results_row_tmp rfl _ _ _ _ _ _ _ (by simp) (by simp) (Now.blk (pre:=[]) hS4) Tryz.underlying46 rfl (by kernel_rfl)
  have h3 : T.len seg ≤ slot := by
    rcases Int.lt_or_le slot (T.len seg) with h | h
    · exact absurd ⟨h0,by omega,h⟩ hn
    · exact h
  clear hn
  refine wp_region_ord Newer.grow [(0,true),(1,true),(2,true),(3,true),(4,true),(5,true),(6,true),(7,true),(8,true),(9,true),(10,true),(11,true),(12,true),(13,true),(14,true),(15,true),(16,true),(17,true),(18,true),(19,true),(20,true),(21,true),(22,true),(23,true),(24,true),(25,true)] [] (by kernel_rfl) (by kernel_rfl) rfl (by kernel_rfl) (by intro _ _ d _ _ h;cases d <;> exact h) ?_
  iterate 26
    (apply wpOrd_take
     · exact rfl
     · intro w1 h1
       (obtain ⟨c1,c2,c3,c4,c5,l0,l1⟩ := hcell w1 h1)
       go_simp
       first
         | with_reducible exact ⟨rfl,sqN _⟩
         | with_reducible exact hct' _ h1 | with_reducible exact hle _ h1 | with_reducible exact rfl
     simp only [Act.put,sqA,sqB,sqC])
  refine wpOrd_done fun w3 h3 => ?_
  have hS3 := Now.below hS2 h3
  have hrb := Now.blk (pre:=[]) hS3
  have q0 : w3.cell? ⟨w.heap.size + 1,0,none⟩ = some (.int .u64 0) := hrb.cell 0
  have q1 : w3.cell? ⟨w.heap.size + 1,1,none⟩ = some (.int .u32 0) := hrb.cell 1
  have q2 : w3.cell? ⟨w.heap.size + 1,2,none⟩ = some (.int .i64 0) := hrb.cell 2
  have q3 : w3.cell? ⟨w.heap.size + 1,3,none⟩ = some (.int .u64 0) := hrb.cell 3
  have q4 : w3.cell? ⟨w.heap.size + 1,4,none⟩ = some (.int .u64 0) := hrb.cell 4
  have q5 : w3.cell? ⟨w.heap.size + 1,5,none⟩ = some (.string ⟨#[]⟩) := hrb.cell 5
  have q6 : w3.cell? ⟨w.heap.size + 1,6,none⟩ = some (.string ⟨#[]⟩) := hrb.cell 6
  have fq := fun k => hrb.frozen k
  clear hrb hcell hct' hle hS2 h3
  go_wp2_with fail
  have hS4 := Now.set_ (pre:=[]) (Now.set_ (pre:=[]) (Now.set_ (pre:=[]) (Now.set_ (pre:=[]) (Now.set_ (pre:=[]) (Now.set_ (pre:=[]) (Now.set_ (pre:=[]) hS3 0 (.int .u64 0)) 1 (.int .u32 0)) 2 (.int .i64 0)) 3 (.int .u64 0)) 4 (.int .u64 0)) 5 (.string ⟨#[]⟩)) 6 (.string ⟨#[]⟩)
  refine bodyPost_ret (v := .tuple #[noRec.value, .int .i64 3]) ?_ rfl ⟨rfl,Now.drop (pre:=[]) (Now.drop (pre:=[]) hS4)⟩
  exact results_row_tmp rfl _ _ _ _ _ _ _ (by simp) (by simp) (Now.blk (pre:=[]) hS4) Tryz.underlying46 rfl (by kernel_rfl)
set_option maxHeartbeats 8000000 in
theorem Read_has (s : LSt) (hs : s.Ok) (g gd : Nat) (epoch seg slot : Int) (hn : s.has seg slot) (AO : Option Addr) (cO : Nat) (AL : Option Addr) (cL : Nat) (AF : Option Addr) (cF : Nat)
    {S0 : Nat → Prop} {w0 w : World} {L : List Thing} (hS : Now S0 w0 w (s.parts g gd epoch AO cO AL cL AF cF ++ L)) :
    Calls Tryz.prog 56 #[.pointer (some ⟨g,0,none⟩), .agg #[.int .i64 seg, .int .i64 slot]] w fun e w' => e = .returned (decV (s.d.readV (secOf s.T.slots seg slot))) ∧ Now S0 w0 w' (s.parts g gd epoch AO cO AL cL AF cF ++ L) := by
  have hdc := fun v => RDecode_any (s.d.readV (secOf s.T.slots seg slot)) v
  obtain ⟨⟨x0,x1,x2,x3,x4,x5,x6⟩,xe,hv⟩ := decV_cases (s.d.readV (secOf s.T.slots seg slot))
  rw [hv] at hdc ⊢
  clear hv
  unfold Rec.value at hdc ⊢
  obtain ⟨T,lsn,gen,d⟩ := s
  have hT : T.Ok := hs.t
  have hpd : d.pend.length ≤ 1000000000 := Nat.le_trans hs.pend (by decide)
  have hmn := hT.many
  have hS1 := Now.pushCells (Now.pushCells hS 90 #[.int .i64 seg, .int .i64 slot]) 46 #[.int .u64 0, .int .u32 0, .int .i64 0, .int .u64 0, .int .u64 0, .string ⟨#[]⟩, .string ⟨#[]⟩]
  simp only [World.size_alloc] at hS1
  unfold LSt.parts at *
  unfold LSt.has at *
  dsimp only at *
  clear hS hs
  go_enter Tryz.func56,Tryz.ntmps56
  go_wp2_with fail
  generalize (w.alloc (.cells #[.int .i64 seg, .int .i64 slot] 90)).alloc (.cells #[.int .u64 0, .int .u32 0, .int .i64 0, .int .u64 0, .int .u64 0, .string ⟨#[]⟩, .string ⟨#[]⟩] 46) = wb at hS1 ⊢
  have hlog := Now.blk (pre:=[_,_]) hS1
  have hloc := Now.blk (pre:=[_]) hS1
  have htab := tabIn_of (pre:=[_,_,_]) hS1
  have hcell : ∀ v,Newer wb.drew v → v.cell? ⟨g,1,none⟩ = some (.int .i64 T.segs) ∧ v.cell? ⟨g,2,none⟩ = some (.int .i64 T.slots) ∧ v.cell? ⟨g,3,none⟩ = some (.slice AO T.order.length cO) ∧ v.cell? ⟨g,4,none⟩ = some (.slice AL T.lens.length cL) ∧ v.cell? ⟨g,5,none⟩ = some (.slice AF T.firsts.length cF) ∧ v.cell? ⟨w.heap.size,0,none⟩ = some (.int .i64 seg) ∧ v.cell? ⟨w.heap.size,1,none⟩ = some (.int .i64 slot) := fun v hv => by
    have hb1 := hlog.below hv.undrew hlog.lt
    have hb2 := hloc.below hv.undrew hloc.lt
    exact ⟨hb1.cell 1,hb1.cell 2,hb1.cell 3,hb1.cell 4,hb1.cell 5,hb2.cell 0,hb2.cell 1⟩
  have hct := fun v (hv : Newer wb.drew v) => Contains_any AO T.order.length cO wb.heap.size T.order seg v (htab.below hv.undrew).o (by omega)
  have hle := fun v (hv : Newer wb.drew v) => Len_tab T hT AO cO AL cL AF cF seg v wb.heap.size hv.size (htab.below hv.undrew)
  have hct' : ∀ v,Newer wb.drew v → Calls Tryz.prog 109 #[.slice AO T.order.length cO, .int .i64 seg] v fun e w' => e = .returned (.bool (decide (0 ≤ idx T.order seg))) ∧ Newer v w' := fun v hv => (hct v hv).mono fun e w' h => ⟨h.1,h.2 ▸ Newer.refl v⟩
  have hS2 := hS1.drew
  clear hS1 hlog hloc htab hct
  obtain ⟨h0,h2,h3⟩ := hn
  have hd : decide (0 ≤ idx T.order seg) = true := decide_eq_true h0
  rw [hd] at hct'
  have hsg : 0 ≤ seg ∧ seg < 16 := by
    have := hT.inn seg (idx_in h0)
    have := hT.segs
    omega
  have hsl2 := hT.slots
  have hll := T.len_in hT seg
  clear hd h0
  refine wp_region_ord Newer.grow [(0,true),(1,true),(2,true),(3,true),(4,true),(5,true),(6,true),(7,true),(8,true),(9,true),(10,true),(11,true),(12,true),(13,true),(14,true),(15,true),(16,true),(17,true),(18,true),(19,true),(20,true),(21,true),(22,true),(23,true),(24,true),(25,true)] [] (by kernel_rfl) (by kernel_rfl) rfl (by kernel_rfl) (by intro _ _ d _ _ h;cases d <;> exact h) ?_
  iterate 26
    (apply wpOrd_take
     · exact rfl
     · intro w1 h1
       (obtain ⟨c1,c2,c3,c4,c5,l0,l1⟩ := hcell w1 h1)
       go_simp
       first
         | with_reducible exact ⟨rfl,sqN _⟩
         | with_reducible exact hct' _ h1 | with_reducible exact hle _ h1 | with_reducible exact rfl
     simp only [Act.put,sqA,sqB,sqC])
  refine wpOrd_done fun w3 h3w => ?_
  have hS3 := Now.below hS2 h3w
  clear hcell hct' hle hS2 h3w
  go_wp2_with fail
  have hlog := Now.blk (pre:=[_,_]) hS3
  have hloc := Now.blk (pre:=[_]) hS3
  obtain ⟨SD,hSD⟩ := Now.get (pre:=[_,_,_,_,_,_]) hS3
  have hcell : ∀ v,Newer w3.drew v → v.cell? ⟨g,0,none⟩ = some (.pointer (some ⟨gd,0,none⟩)) ∧ v.cell? ⟨g,2,none⟩ = some (.int .i64 T.slots) ∧ v.cell? ⟨w.heap.size,0,none⟩ = some (.int .i64 seg) ∧ v.cell? ⟨w.heap.size,1,none⟩ = some (.int .i64 slot) := fun v hv => by
    have hb1 := hlog.below hv.undrew hlog.lt
    have hb2 := hloc.below hv.undrew hloc.lt
    exact ⟨hb1.cell 0,hb1.cell 2,hb2.cell 0,hb2.cell 1⟩
  have hsec := fun v => Sector_ok T.slots seg slot hsl2 hsg ⟨h2,by omega⟩ v
  have hrd := fun v (hv : Newer w3.drew v) => NRead gd d (secOf T.slots seg slot) hpd v SD ((dskT gd d).keep hSD (Fr.of_below hv.undrew) (fun k hk hn => absurd ((dskT gd d).lt hSD hk) (Nat.not_lt.2 hn)))
  have hS4 := hS3.drew
  clear hS3 hlog hloc hSD
  refine wp_region_ord Newer.grow [(0,true),(1,true),(2,true),(3,true),(4,true),(5,true),(6,true),(7,true),(8,true),(9,true),(10,true),(11,true),(12,true),(13,true),(14,true),(15,true),(16,true)] [] (by kernel_rfl) (by kernel_rfl) rfl (by kernel_rfl) (by intro _ _ d _ _ h;cases d <;> exact h) ?_
  iterate 17
    (apply wpOrd_take
     · exact rfl
     · intro w1 h1
       (obtain ⟨c0,c2,l0,l1⟩ := hcell w1 h1)
       go_simp
       first
         | with_reducible exact ⟨rfl,sqN _⟩
         | with_reducible exact hsec _ | with_reducible exact hrd _ h1
     simp only [Act.put,sqA,sqB,sqC])
  refine wpOrd_done fun w5 h5 => ?_
  have hS5 := Now.below hS4 h5
  clear hcell hsec hrd hS4 h5
  go_wp2_with (go_at_call 58;(with_reducible refine (hdc _).mono ?_);rintro e w6 ⟨rfl,hB⟩;have hS6 := Now.below hS5 hB;have hrb := Now.blk (pre:=[]) hS6;have q0 : w6.cell? ⟨w.heap.size + 1,0,none⟩ = some (.int .u64 0) := hrb.cell 0;have q1 : w6.cell? ⟨w.heap.size + 1,1,none⟩ = some (.int .u32 0) := hrb.cell 1;have q2 : w6.cell? ⟨w.heap.size + 1,2,none⟩ = some (.int .i64 0) := hrb.cell 2;have q3 : w6.cell? ⟨w.heap.size + 1,3,none⟩ = some (.int .u64 0) := hrb.cell 3;have q4 : w6.cell? ⟨w.heap.size + 1,4,none⟩ = some (.int .u64 0) := hrb.cell 4;have q5 : w6.cell? ⟨w.heap.size + 1,5,none⟩ = some (.string ⟨#[]⟩) := hrb.cell 5;have q6 : w6.cell? ⟨w.heap.size + 1,6,none⟩ = some (.string ⟨#[]⟩) := hrb.cell 6;have fq := fun k => hrb.frozen k;clear hrb hdc hB hS5)
  have hS7 := Now.set_ (pre:=[]) (Now.set_ (pre:=[]) (Now.set_ (pre:=[]) (Now.set_ (pre:=[]) (Now.set_ (pre:=[]) (Now.set_ (pre:=[]) (Now.set_ (pre:=[]) hS6 0 (.int .u64 x0)) 1 (.int .u32 x1)) 2 (.int .i64 x2)) 3 (.int .u64 x3)) 4 (.int .u64 x4)) 5 (.string x5)) 6 (.string x6)
  refine bodyPost_ret (v := .tuple #[.agg #[.int .u64 x0, .int .u32 x1, .int .i64 x2, .int .u64 x3, .int .u64 x4, .string x5, .string x6], .int .i64 xe]) ?_ rfl ⟨rfl,Now.drop (pre:=[]) (Now.drop (pre:=[]) hS7)⟩
  exact results_row_tmp rfl _ _ _ _ _ _ _ (by simp) (by simp) (Now.blk (pre:=[]) hS7) Tryz.underlying46 rfl (by kernel_rfl)
theorem Read_any (s : LSt) (hs : s.Ok) (g gd : Nat) (epoch seg slot : Int) (AO : Option Addr) (cO : Nat) (AL : Option Addr) (cL : Nat) (AF : Option Addr) (cF : Nat)
    {S0 : Nat → Prop} {w0 w : World} {L : List Thing} (hS : Now S0 w0 w (s.parts g gd epoch AO cO AL cL AF cF ++ L)) :
    Calls Tryz.prog 56 #[.pointer (some ⟨g,0,none⟩), .agg #[.int .i64 seg, .int .i64 slot]] w fun e w' => e = .returned (s.read seg slot) ∧ Now S0 w0 w' (s.parts g gd epoch AO cO AL cL AF cF ++ L) := by
  unfold LSt.read
  by_cases h : s.has seg slot
  · rw [if_pos h];exact Read_has s hs g gd epoch seg slot h AO cO AL cL AF cF hS
  · rw [if_neg h];exact Read_none s hs g gd epoch seg slot h AO cO AL cL AF cF hS
end Go.Proofs.YtidacaihmjdmkaaGreat
namespace Go.Proofs.YtidacaihmjdmkaaGreat
theorem free_write (d : Dsk) (h : d.lim = false) (i : Int) (s : ByteArray) (hi : 0 ≤ i ∧ i < d.n) (hs : s.size = 128) : d.writeE i s = 0 ∧ d.writeS i s = d.write i s := by
  have hd : d.dead = false := by unfold Dsk.dead;rw [h];rfl
  have e : d.writeE i s = 0 := by unfold Dsk.writeE;rw [if_pos hi,if_pos hs,hd];rfl
  exact ⟨e,by unfold Dsk.writeS;rw [if_pos e]⟩
theorem put_free (s : LSt) (epoch : Int) (rc : Rec) (h : s.d.lim = false) (hR : (s.recOf epoch rc).right = true) (hi : 0 ≤ s.T.at_ ∧ s.T.at_ < s.d.n) :
    s.put epoch rc = (0,s.T.open_,s.T.last,⟨s.T.count,s.lsn + 1,s.gen,s.d.write s.T.at_ (s.recOf epoch rc).sector⟩) := by
  obtain ⟨h1,h2⟩ := free_write s.d h s.T.at_ _ hi (Rec.sector_size hR)
  unfold LSt.put
  rw [if_pos h1,h2]
theorem seal_free (s : LSt) (epoch f : Int) (l : List Int) (h : s.d.lim = false) (hl : s.lsn ≠ 0) (hf : s.T.freeTo s.T.segs.toNat = f :: l) (hf16 : f < 16) (hi : 0 ≤ s.T.at_ ∧ s.T.at_ < s.d.n) :
    s.seal epoch = (0,⟨s.T.roll f (s.lsn + 1),s.lsn + 1,s.gen,s.d.write s.T.at_ (footR s.lsn epoch f).sector⟩) := by
  obtain ⟨h1,h2⟩ := free_write s.d h s.T.at_ (footR s.lsn epoch f).sector hi (Rec.sector_size (footR_right _ _ _ hl hf16))
  unfold LSt.seal rollE
  rw [hf]
  dsimp only
  rw [if_pos h1,h2]
theorem app_put (T : Tab) (lsn gen epoch : Int) (d : Dsk) (rc : Rec) (hk : rc.kind ≠ 3) (hR : ({ rc with lsn := lsn,epoch := epoch } : Rec).right = true) (hroom : T.room ≠ 0) (hne : T.last ≠ T.slots) (hl : d.lim = false) (hi : 0 ≤ T.at_ ∧ T.at_ < d.n) :
    LSt.append ⟨T,lsn,gen,d⟩ epoch rc = (0,T.open_,T.last,⟨T.count,lsn + 1,gen,d.write T.at_ ({ rc with lsn := lsn,epoch := epoch } : Rec).sector⟩) := by
  unfold LSt.append
  rw [if_neg (fun h => h.elim hk (fun h => by rw [show (LSt.recOf ⟨T,lsn,gen,d⟩ epoch rc) = ({ rc with lsn := lsn,epoch := epoch } : Rec) from rfl,hR] at h;cases h)),if_neg hroom,if_neg hne]
  exact put_free ⟨T,lsn,gen,d⟩ epoch rc hl hR hi
theorem app_roll (T : Tab) (lsn gen epoch f : Int) (l : List Int) (d : Dsk) (rc : Rec) (hk : rc.kind ≠ 3) (hR : ({ rc with lsn := lsn,epoch := epoch } : Rec).right = true) (hR2 : ({ rc with lsn := lsn + 1,epoch := epoch } : Rec).right = true) (hroom : T.room ≠ 0) (he : T.last = T.slots) (hl : d.lim = false) (hls : lsn ≠ 0)
    (hf : T.freeTo T.segs.toNat = f :: l) (hf16 : f < 16) (hi : 0 ≤ T.at_ ∧ T.at_ < d.n) (hi2 : 0 ≤ (T.roll f (lsn + 1)).at_ ∧ (T.roll f (lsn + 1)).at_ < d.n) :
    LSt.append ⟨T,lsn,gen,d⟩ epoch rc = (0,(T.roll f (lsn + 1)).open_,(T.roll f (lsn + 1)).last,⟨(T.roll f (lsn + 1)).count,lsn + 1 + 1,gen,(d.write T.at_ (footR lsn epoch f).sector).write (T.roll f (lsn + 1)).at_ ({ rc with lsn := lsn + 1,epoch := epoch } : Rec).sector⟩) := by
  have hs := seal_free ⟨T,lsn,gen,d⟩ epoch f l hl hls hf hf16 hi
  unfold LSt.append
  rw [if_neg (fun h => h.elim hk (fun h => by rw [show (LSt.recOf ⟨T,lsn,gen,d⟩ epoch rc) = ({ rc with lsn := lsn,epoch := epoch } : Rec) from rfl,hR] at h;cases h)),if_neg hroom,if_pos he,hs,if_pos rfl]
  exact put_free ⟨T.roll f (lsn + 1),lsn + 1,gen,d.write T.at_ (footR lsn epoch f).sector⟩ epoch rc hl hR2 hi2
def bA : ByteArray := ⟨#[97]⟩
def bB : ByteArray := ⟨#[98]⟩
def bC : ByteArray := ⟨#[99]⟩
abbrev liveAt (lsn : Int) (id : ByteArray) (ver : Int) : Rec := { lsn := lsn,epoch := 1,kind := 1,ver := ver,dl := 9,id := id,val := ⟨#[118]⟩ }
section
variable (d : Dsk) (hl : d.lim = false) (hn : d.n = 14)
include hl hn
theorem fx1 : LSt.append ⟨newTab 4 2 1,1,1,d⟩ 1 (liveR bA 1) = (0,0,0,⟨⟨4,2,[0],[1],[1]⟩,2,1,d.write 2 (liveAt 1 bA 1).sector⟩) :=
  app_put _ 1 1 1 d _ (by decide) (by decide) (by decide) (by decide) hl (by show (0 : Int) ≤ 2 ∧ (2 : Int) < d.n;omega)
theorem fx2 : LSt.append ⟨⟨4,2,[0],[1],[1]⟩,2,1,d⟩ 1 (liveR bB 2) = (0,0,1,⟨⟨4,2,[0],[2],[1]⟩,3,1,d.write 3 (liveAt 2 bB 2).sector⟩) :=
  app_put _ 2 1 1 d _ (by decide) (by decide) (by decide) (by decide) hl (by show (0 : Int) ≤ 3 ∧ (3 : Int) < d.n;omega)
theorem fx3 : LSt.append ⟨⟨4,2,[0],[2],[1]⟩,3,1,d⟩ 1 (liveR bC 3) = (0,1,0,⟨⟨4,2,[0,1],[2,1],[1,4]⟩,5,1,(d.write 4 (footR 3 1 1).sector).write 5 (liveAt 4 bC 3).sector⟩) :=
  app_roll _ 3 1 1 1 [2,3] d _ (by decide) (by decide) (by decide) (by decide) (by decide) hl (by decide) (by decide) (by decide) (by show (0 : Int) ≤ 4 ∧ (4 : Int) < d.n;omega) (by show (0 : Int) ≤ 5 ∧ (5 : Int) < d.n;omega)
end
def footRec : Rec := { lsn := 0,epoch := 0,kind := 3,ver := 0,dl := 0,id := ⟨#[]⟩,val := ⟨#[]⟩ }
theorem fx4 (s : LSt) : s.append 1 footRec = (5,0,0,s) := by
  unfold LSt.append
  rw [if_pos (.inl rfl)]
theorem fmtD_is (n : Int) (hn : 2 ≤ n) (s : ByteArray) (hs : s.size = 128) : (fmtD n s).lim = false ∧ (fmtD n s).n = n ∧ (fmtD n s).pend = [] := by
  have e : fmtD n s = (((newDsk n).flush).write 1 s).flush := by
    have h1 : (newDsk n).flushS = (newDsk n).flush := rfl
    have h2 := (free_write (newDsk n).flush rfl 1 s ⟨by omega,by show (1 : Int) < n;omega⟩ hs).2
    have h3 : (((newDsk n).flush).write 1 s).flushS = (((newDsk n).flush).write 1 s).flush := rfl
    unfold fmtD
    rw [h1,h2,h3]
  rw [e]
  exact ⟨rfl,rfl,rfl⟩
theorem madeD_is (n : Int) (hn : 2 ≤ n) (c : Cnf) : (madeD n c).lim = false ∧ (madeD n c).n = n ∧ (madeD n c).pend = [] := fmtD_is n hn _ (enc_size _)
theorem read_here (d : Dsk) (i : Int) (s : ByteArray) : (d.write i s).read i = s := by
  unfold Dsk.read Dsk.write
  simp
theorem read_there (d : Dsk) (i j : Int) (s : ByteArray) (h : i ≠ j) : (d.write i s).read j = d.read j := by
  have hb : (i == j) = false := beq_eq_false_iff_ne.2 h
  unfold Dsk.read Dsk.write
  simp only [List.reverse_append,List.reverse_cons,List.reverse_nil,List.nil_append,List.cons_append,List.find?_cons,hb]
  rfl
theorem flush_one (d : Dsk) (i : Int) (s : ByteArray) (h : d.pend = []) : ((d.write i s).flush).read i = s := by
  unfold Dsk.read Dsk.flush Dsk.doAll Dsk.write Dsk.use Dsk.do_ Dsk.holds
  simp [h,upd]
theorem ckDo_free (d : Dsk) (gen : Int) (s : ByteArray) (hl : d.lim = false) (hn : 2 ≤ d.n) (hs : s.size = 128) : ckDo d gen s = (0,gen + 1,((d.flush).write ((gen + 1) % 2) s).flush) := by
  have hd : d.dead = false := by unfold Dsk.dead;rw [hl];rfl
  have e1 : d.flushE = 0 := by unfold Dsk.flushE;rw [hd];rfl
  have e2 : d.flushS = d.flush := by unfold Dsk.flushS;rw [hd];rfl
  have hl2 : d.flush.lim = false := by
    show (d.use.doAll d.pend).lim = false
    rw [(Dsk.doAll_pend d.pend d.use).2.2.1]
    exact hl
  have hn2 : d.flush.n = d.n := by
    show (d.use.doAll d.pend).n = d.n
    rw [(Dsk.doAll_pend d.pend d.use).2.1]
    rfl
  obtain ⟨e3,e4⟩ := free_write d.flush hl2 ((gen + 1) % 2) s ⟨by omega,by rw [hn2];omega⟩ hs
  have hl3 : (d.flush.write ((gen + 1) % 2) s).dead = false := by unfold Dsk.dead;rw [show (d.flush.write ((gen + 1) % 2) s).lim = d.flush.lim from rfl,hl2];rfl
  have e5 : (d.flush.write ((gen + 1) % 2) s).flushE = 0 := by unfold Dsk.flushE;rw [hl3];rfl
  have e6 : (d.flush.write ((gen + 1) % 2) s).flushS = (d.flush.write ((gen + 1) % 2) s).flush := by unfold Dsk.flushS;rw [hl3];rfl
  unfold ckDo
  rw [e1,e2,e3,e4,e5,e6]
  rfl
theorem flush_is (d : Dsk) : d.flush.lim = d.lim ∧ d.flush.n = d.n ∧ d.flush.pend = [] := by
  obtain ⟨h1,h2,h3,h4⟩ := Dsk.doAll_pend d.pend d.use
  exact ⟨h3,h2,rfl⟩
def cF : Cnf := ⟨4,2,4607182418800017408,0⟩
def fD0 : Dsk := madeD 14 cF
def fs0 : LSt := ⟨newTab 4 2 1,1,1,fD0⟩
def fD1 : Dsk := fD0.write 2 (liveAt 1 bA 1).sector
def fs1 : LSt := ⟨⟨4,2,[0],[1],[1]⟩,2,1,fD1⟩
def fD2 : Dsk := fD1.write 3 (liveAt 2 bB 2).sector
def fs2 : LSt := ⟨⟨4,2,[0],[2],[1]⟩,3,1,fD2⟩
def fD3 : Dsk := (fD2.write 4 (footR 3 1 1).sector).write 5 (liveAt 4 bC 3).sector
def fs3 : LSt := ⟨⟨4,2,[0,1],[2,1],[1,4]⟩,5,1,fD3⟩
def fT5 : Tab := ⟨4,2,[1],[1],[4]⟩
def fE5 : ByteArray := ⟨(fT5.chk 2 1 5 3).enc.toArray⟩
def fD5 : Dsk := ((fD3.flush).write 0 fE5).flush
def fs5 : LSt := ⟨fT5,5,2,fD5⟩
theorem fD0_is : fD0.lim = false ∧ fD0.n = 14 ∧ fD0.pend = [] := madeD_is 14 (by decide) cF
theorem fD3_is : fD3.lim = false ∧ fD3.n = 14 ∧ fD3.pend.length = 4 := by
  obtain ⟨h1,h2,h3⟩ := fD0_is
  refine ⟨h1,h2,?_⟩
  show ((((fD0.pend ++ _) ++ _) ++ _) ++ _).length = 4
  rw [h3]
  rfl
theorem fa1 : fs0.append 1 (liveR bA 1) = (0,0,0,fs1) := fx1 fD0 fD0_is.1 fD0_is.2.1
theorem fa2 : fs1.append 1 (liveR bB 2) = (0,0,1,fs2) := fx2 fD1 fD0_is.1 fD0_is.2.1
theorem fa3 : fs2.append 1 (liveR bC 3) = (0,1,0,fs3) := fx3 fD2 fD0_is.1 fD0_is.2.1
theorem tab_ok (T : Tab) (h : (4 ≤ T.segs ∧ T.segs ≤ 16) ∧ (1 ≤ T.slots ∧ T.slots ≤ 30) ∧ 1 ≤ T.order.length ∧ T.order.length ≤ 16 ∧ T.lens.length = T.order.length ∧ T.firsts.length = T.order.length ∧ (∀ s ∈ T.order,0 ≤ s ∧ s < T.segs) ∧ T.order.Nodup ∧ (∀ l ∈ T.lens,0 ≤ l ∧ l ≤ T.slots) ∧ ∀ f ∈ T.firsts,0 ≤ f ∧ f < 18446744073709551616) : T.Ok := by
  obtain ⟨h1,h2,h3,h4,h5,h6,h7,h8,h9,h10⟩ := h
  exact ⟨h1,h2,h3,h4,h5,h6,h7,h8,h9,h10⟩
theorem fT5_ok : fT5.Ok := tab_ok _ (by decide)
theorem fs_ok (T : Tab) (hT : T.Ok) (lsn gen : Int) (d : Dsk) (hl : 1 ≤ lsn ∧ lsn < 100) (hg : 0 ≤ gen ∧ gen < 100) (hp : d.pend.length ≤ 10) : LSt.Ok ⟨T,lsn,gen,d⟩ :=
  ⟨hT,⟨hl.1,by show lsn < 1000000;omega⟩,⟨hg.1,by show gen < 1000000;omega⟩,by show d.pend.length ≤ 100000;omega⟩
theorem pend_write (d : Dsk) (i : Int) (s : ByteArray) : (d.write i s).pend.length = d.pend.length + 1 := by
  show (d.pend ++ [(i,s)]).length = _
  simp
theorem fs0_ok : fs0.Ok := fs_ok _ (tab_ok _ (by decide)) _ _ _ (by decide) (by decide) (by rw [fD0_is.2.2];decide)
theorem fs1_ok : fs1.Ok := fs_ok _ (tab_ok _ (by decide)) _ _ _ (by decide) (by decide) (by unfold fD1;rw [pend_write,fD0_is.2.2];decide)
theorem fs2_ok : fs2.Ok := fs_ok _ (tab_ok _ (by decide)) _ _ _ (by decide) (by decide) (by unfold fD2 fD1;rw [pend_write,pend_write,fD0_is.2.2];decide)
theorem fs3_ok : fs3.Ok := fs_ok _ (tab_ok _ (by decide)) _ _ _ (by decide) (by decide) (by rw [fD3_is.2.2];decide)
theorem fk3 : ckDo fD3 1 ⟨((fs3.T.drop 0).chk 2 1 5 3).enc.toArray⟩ = (0,2,fD5) := by
  have h := ckDo_free fD3 1 fE5 fD3_is.1 (by rw [fD3_is.2.1];decide) (enc_size _)
  exact h
theorem fr3 : fs3.read 1 0 = .tuple #[(liveAt 4 bC 3).value, .int .i64 0] := by
  have h5 : fD3.readV 5 = (liveAt 4 bC 3).sector := by
    unfold Dsk.readV
    rw [if_pos (by rw [fD3_is.2.1];decide)]
    exact read_here _ _ _
  have hh : fs3.has 1 0 := show (0 : Int) ≤ idx [0,1] 1 ∧ (0 : Int) ≤ 0 ∧ (0 : Int) < Tab.len ⟨4,2,[0,1],[2,1],[1,4]⟩ 1 from by decide
  unfold LSt.read
  rw [if_pos hh]
  show decV (fD3.readV 5) = _
  have h := decR_sector (r := liveAt 4 bC 3) (by decide) (by constructor <;> decide)
  rw [h5]
  unfold decV
  rw [h]
theorem fr4 : fs3.read 0 2 = .tuple #[noRec.value, .int .i64 3] := by
  have hh : ¬ fs3.has 0 2 := show ¬ ((0 : Int) ≤ idx [0,1] 0 ∧ (0 : Int) ≤ 2 ∧ (2 : Int) < Tab.len ⟨4,2,[0,1],[2,1],[1,4]⟩ 0) from by decide
  unfold LSt.read
  rw [if_neg hh]
theorem ff : fD3.readV 4 = (footR 3 1 1).sector ∧ fD3.readE 4 = 0 := by
  unfold Dsk.readV Dsk.readE
  rw [if_pos (by rw [fD3_is.2.1];decide),if_pos (by rw [fD3_is.2.1];decide)]
  refine ⟨?_,rfl⟩
  show ((fD2.write 4 _).write 5 _).read 4 = _
  rw [read_there _ _ _ _ (by decide),read_here]
theorem fdec : decV (footR 3 1 1).sector = .tuple #[(footR 3 1 1).value, .int .i64 0] := by
  have h := decR_sector (r := footR 3 1 1) (footR_right _ _ _ (by decide) (by decide)) (footR_fits _ _ _ (by decide) (by decide) (by decide))
  unfold decV
  rw [h]
theorem fd5 : fD5.readV 0 = fE5 ∧ fD5.readE 0 = 0 := by
  have hn : fD5.n = 14 := by
    unfold fD5
    rw [(flush_is _).2.1]
    show (fD3.flush).n = 14
    rw [(flush_is _).2.1,fD3_is.2.1]
  unfold Dsk.readV Dsk.readE
  rw [if_pos (by rw [hn];decide),if_pos (by rw [hn];decide)]
  exact ⟨flush_one _ _ _ (flush_is _).2.2,rfl⟩
theorem fdecC : decC fE5.data.toList = some (fT5.chk 2 1 5 3) := by
  show decC (fT5.chk 2 1 5 3).enc = _
  exact decC_enc _ (Tab.chk_right _ fT5_ok _ _ _ _ (by decide) (by decide)) (by constructor <;> decide)
end Go.Proofs.YtidacaihmjdmkaaGreat
namespace Go.Proofs.YtidacaihmjdmkaaGreat
open Go.RowKit
attribute [local go_sem high] run_mx run_mn
theorem list_same {xs ys : List Int} (h : xs.length = ys.length) : xs = ys ↔ ∀ j : Nat,j < xs.length → xs[j]? = ys[j]? := by
  constructor
  · rintro rfl j _;rfl
  · intro hj
    refine List.ext_getElem? fun j => ?_
    rcases Nat.lt_or_ge j xs.length with hl | hl
    · exact hj j hl
    · rw [List.getElem?_eq_none hl,List.getElem?_eq_none (by omega)]
set_option maxHeartbeats 4000000 in
theorem Ints_any (xs ys : List Int) (A B : Option Addr) (cA cB : Nat) (hn : xs.length ≤ 1000000) (hm : ys.length ≤ 1000000) (w : World) (hA : Reads w w.heap.size 1 A xs.length (ints xs)) (hB : Reads w w.heap.size 1 B ys.length (ints ys)) :
    Calls Tryz.prog 48 #[.slice A xs.length cA, .slice B ys.length cB] w fun e w' => e = .returned (.bool (decide (xs = ys))) ∧ Newer w w' := by
  obtain ⟨ans,hans⟩ : ∃ ans : Bool,decide (xs = ys) = ans := ⟨_,rfl⟩
  rw [hans]
  have HANS := Lib.hid hans
  clear hans
  by_cases hl : xs.length = ys.length
  case neg =>
    have hf : Hid (false = ans) := Lib.hid (by rw [← HANS.out];symm;exact decide_eq_false fun h => hl (by rw [h]))
    have hli : (xs.length : Int) ≠ (ys.length : Int) := by omega
    clear HANS hl
    go_enter Tryz.func48,Tryz.ntmps48
    go_wp2
    go_ret
    exact ⟨by rw [← hf.out];rfl,Newer.refl w⟩
  obtain ⟨n,hxn⟩ : ∃ n,xs.length = n := ⟨_,rfl⟩
  have hyn : ys.length = n := by omega
  rw [hxn] at hA hn
  rw [hyn] at hB
  rw [hxn,hyn]
  have HXN := Lib.hid hxn
  have HYN := Lib.hid hyn
  have HA := Lib.hid hA
  have HB := Lib.hid hB
  clear hl hm hxn hyn hA hB
  go_enter Tryz.func48,Tryz.ntmps48
  go_wp2
  go_loopw [5] (fun i wr => ∃ k : Nat,k ≤ n ∧ i = .int .i64 k ∧ Hid (∀ j : Nat,j < k → xs[j]? = ys[j]?) ∧ Newer w wr) (fun i _ => n - (intOf i).toNat)
  case atStart => exact ⟨0,by omega,rfl,Lib.hid (by intro j hj;omega),Newer.refl w⟩
  case round =>
    obtain ⟨k,hk,rfl,hup,hN⟩ := hrel
    by_cases hlt : k < n
    · have hki : (k : Int) < (n : Int) := by omega
      obtain ⟨x,hx⟩ : ∃ x,xs[k]? = some x := ⟨_,List.getElem?_eq_getElem (by rw [HXN.out];exact hlt)⟩
      obtain ⟨y,hy⟩ : ∃ y,ys[k]? = some y := ⟨_,List.getElem?_eq_getElem (by rw [HYN.out];exact hlt)⟩
      obtain ⟨ad,rfl,had,ca⟩ := read_cell (u := .int .i64 x) HA.out hlt (by rw [List.getElem?_map,hx];rfl)
      obtain ⟨bd,rfl,hbd,cb⟩ := read_cell (u := .int .i64 y) HB.out hlt (by rw [List.getElem?_map,hy];rfl)
      have hcell : ∀ v,Newer wr.drew v → v.cell? (ad.add k) = some (.int .i64 x) ∧ v.cell? (bd.add k) = some (.int .i64 y) := fun v hv =>
        have h1 := hN.trans hv.undrew
        ⟨(h1.cell (p := ad.add k) (by rw [block_of_add];exact had)).trans ca,(h1.cell (p := bd.add k) (by rw [block_of_add];exact hbd)).trans cb⟩
      have HX := Lib.hid hx
      have HY := Lib.hid hy
      have HU := Lib.hid hup
      clear hx hy hup ca cb had hbd
      by_cases hxy : x = y
      · subst hxy
        have hup2 : Hid (∀ j : Nat,j < k + 1 → xs[j]? = ys[j]?) := Lib.hid (by
          intro j hj
          by_cases hjk : j = k
          · subst hjk;rw [HX.out,HY.out]
          · exact HU.out.out j (by omega))
        go_wp2_with fail
        refine wp_region_ord Newer.grow [(0,true),(1,true),(2,true),(3,true),(4,true),(5,true),(6,true),(7,true),(8,true)] [] (by kernel_rfl) (by kernel_rfl) rfl (by kernel_rfl) (by intro _ _ d _ _ h;cases d <;> exact h) ?_
        iterate 9
          (apply wpOrd_take
           · exact rfl
           · intro w1 h1
             (obtain ⟨c1,c2⟩ := hcell w1 h1)
             go_simp
             first
               | with_reducible exact ⟨rfl,sqN _⟩
           simp only [Act.put,sqA,sqB,sqC])
        refine wpOrd_done fun w3 h3 => ?_
        go_wp2_with fail
        go_roundw
        case rel => exact ⟨k + 1,by omega,by go_num,hup2,hN.trans h3.undrew⟩
        case measure => simp [intOf];omega
      · have hf : Hid (false = ans) := Lib.hid (by rw [← HANS.out];symm;refine decide_eq_false fun h => hxy ?_;have h1 := HX.out;rw [h,HY.out] at h1;exact (Option.some.inj h1).symm)
        go_wp2_with fail
        refine wp_region_ord Newer.grow [(0,true),(1,true),(2,true),(3,true),(4,true),(5,true),(6,true),(7,true),(8,true)] [] (by kernel_rfl) (by kernel_rfl) rfl (by kernel_rfl) (by intro _ _ d _ _ h;cases d <;> exact h) ?_
        iterate 9
          (apply wpOrd_take
           · exact rfl
           · intro w1 h1
             (obtain ⟨c1,c2⟩ := hcell w1 h1)
             go_simp
             first
               | with_reducible exact ⟨rfl,sqN _⟩
           simp only [Act.put,sqA,sqB,sqC])
        refine wpOrd_done fun w3 h3 => ?_
        go_wp2_with fail
        go_ret
        exact ⟨by rw [← hf.out];rfl,hN.trans h3.undrew⟩
    · obtain rfl : k = n := by omega
      have hf : Hid (true = ans) := Lib.hid (by rw [← HANS.out];symm;exact decide_eq_true ((list_same (by rw [HXN.out,HYN.out])).2 (by rw [HXN.out];exact hup.out)))
      go_wp2_with fail
      go_ret
      exact ⟨by rw [← hf.out];rfl,hN⟩
set_option maxHeartbeats 8000000 in
theorem Same_yes (T : Tab) (hT : T.Short) (AO AL AF AO' AL' AF' : Option Addr) (cO cL cF cO' cL' cF' : Nat) (w : World) (h : TabIn w w.heap.size T AO AL AF) (h' : TabIn w w.heap.size T AO' AL' AF') :
    Calls Tryz.prog 46 #[.agg (tabCells T AO cO AL cL AF cF), .agg (tabCells T AO' cO' AL' cL' AF' cF')] w fun e w' => e = .returned (.bool true) ∧ Newer w w' := by
  have hs1 := hT.o
  have hs2 := hT.l
  have hs3 := hT.f
  obtain ⟨no,hno⟩ : ∃ n,T.order.length = n := ⟨_,rfl⟩
  obtain ⟨nl,hnl⟩ : ∃ n,T.lens.length = n := ⟨_,rfl⟩
  obtain ⟨nf,hnf⟩ : ∃ n,T.firsts.length = n := ⟨_,rfl⟩
  have ro := h.o
  have rl := h.l
  have rf := h.f
  have ro' := h'.o
  have rl' := h'.l
  have rf' := h'.f
  unfold tabCells
  rw [hno] at ro ro' hs1 ⊢
  rw [hnl] at rl rl' hs2 ⊢
  rw [hnf] at rf rf' hs3 ⊢
  have HO := Lib.hid hno
  have HL := Lib.hid hnl
  have HF := Lib.hid hnf
  have RO := Lib.hid ro
  have RL := Lib.hid rl
  have RF := Lib.hid rf
  have RO' := Lib.hid ro'
  have RL' := Lib.hid rl'
  have RF' := Lib.hid rf'
  have hS := Now.pushCells (Now.pushCells (Sep.start w) 71 #[.int .i64 T.segs, .int .i64 T.slots, .slice AO no cO, .slice AL nl cL, .slice AF nf cF]) 71 #[.int .i64 T.segs, .int .i64 T.slots, .slice AO' no cO', .slice AL' nl cL', .slice AF' nf cF']
  simp only [World.size_alloc] at hS
  have hB := Sep.base hS
  have hx1 := Now.blk (pre:=[_]) hS
  have hx2 := Now.blk (pre:=[]) hS
  clear h h' hno hnl hnf ro rl rf ro' rl' rf' hT hS
  go_enter Tryz.func46,Tryz.ntmps46
  go_wp2_with fail
  generalize (w.alloc (.cells #[.int .i64 T.segs, .int .i64 T.slots, .slice AO no cO, .slice AL nl cL, .slice AF nf cF] 71)).alloc (.cells #[.int .i64 T.segs, .int .i64 T.slots, .slice AO' no cO', .slice AL' nl cL', .slice AF' nf cF'] 71) = wb at *
  go_loopw [5] (fun i wr => ∃ k : Nat,k ≤ no ∧ i = .int .i64 k ∧ Newer wb wr) (fun i _ => no - (intOf i).toNat)
  case atStart => exact ⟨0,by omega,rfl,Newer.refl _⟩
  case round =>
    obtain ⟨k,hk,rfl,hN⟩ := hrel
    have hb1 := hx1.below hN hx1.lt
    have hb2 := hx2.below hN hx2.lt
    have r1 : wr.cell? ⟨w.heap.size,2,none⟩ = some (.slice AO no cO) := hb1.cell 2
    have r2 : wr.cell? ⟨w.heap.size + 1,2,none⟩ = some (.slice AO' no cO') := hb2.cell 2
    clear hb1 hb2
    by_cases hlt : k < no
    · have hki : (k : Int) < (no : Int) := by omega
      obtain ⟨x,hx⟩ : ∃ x,T.order[k]? = some x := ⟨_,List.getElem?_eq_getElem (by rw [HO.out];exact hlt)⟩
      obtain ⟨ad,rfl,had,ca⟩ := read_cell (u := .int .i64 x) RO.out hlt (by rw [List.getElem?_map,hx];rfl)
      obtain ⟨bd,rfl,hbd,cb⟩ := read_cell (u := .int .i64 x) RO'.out hlt (by rw [List.getElem?_map,hx];rfl)
      have hcell : ∀ v,Newer wr.drew v → v.cell? (ad.add k) = some (.int .i64 x) ∧ v.cell? (bd.add k) = some (.int .i64 x) ∧ v.cell? ⟨w.heap.size,2,none⟩ = some (.slice (some ad) no cO) ∧ v.cell? ⟨w.heap.size + 1,2,none⟩ = some (.slice (some bd) no cO') := fun v hv =>
        have h1 := (hB.trans (hN.mono hB.size)).trans (hv.undrew.mono (Nat.le_trans hB.size hN.size))
        have hb1 := (hx1.below hN hx1.lt).below hv.undrew (hx1.below hN hx1.lt).lt
        have hb2 := (hx2.below hN hx2.lt).below hv.undrew (hx2.below hN hx2.lt).lt
        ⟨(h1.cell (p := ad.add k) (by rw [block_of_add];exact had)).trans ca,(h1.cell (p := bd.add k) (by rw [block_of_add];exact hbd)).trans cb,hb1.cell 2,hb2.cell 2⟩
      clear hx ca cb had hbd
      go_wp2_with fail
      refine wp_region_ord Newer.grow [(0,true),(1,true),(2,true),(3,true),(4,true),(5,true),(6,true),(7,true),(8,true),(9,true),(10,true)] [] (by kernel_rfl) (by kernel_rfl) rfl (by kernel_rfl) (by intro _ _ d _ _ h;cases d <;> exact h) ?_
      iterate 11
        (apply wpOrd_take
         · exact rfl
         · intro w1 h1
           (obtain ⟨c1,c2,c3,c4⟩ := hcell w1 h1)
           go_simp
           first
             | with_reducible exact ⟨rfl,sqN _⟩
         simp only [Act.put,sqA,sqB,sqC])
      refine wpOrd_done fun w3 h3 => ?_
      go_wp2_with fail
      go_roundw
      case rel => exact ⟨k + 1,by omega,by go_num,hN.trans h3.undrew⟩
      case measure => simp [intOf];omega
    · obtain rfl : k = no := by omega
      have hN0 := hN
      go_wp2_with fail
      go_loopw [6] (fun i wr => ∃ k : Nat,k ≤ nl ∧ i = .int .i64 k ∧ Newer wb wr) (fun i _ => nl - (intOf i).toNat)
      case atStart => exact ⟨0,by omega,rfl,hN0⟩
      case round =>
        obtain ⟨k,hk,rfl,hN⟩ := hrel
        have hb1 := hx1.below hN hx1.lt
        have hb2 := hx2.below hN hx2.lt
        have r1 : wr.cell? ⟨w.heap.size,3,none⟩ = some (.slice AL nl cL) := hb1.cell 3
        have r2 : wr.cell? ⟨w.heap.size + 1,3,none⟩ = some (.slice AL' nl cL') := hb2.cell 3
        clear hb1 hb2
        by_cases hlt : k < nl
        · have hki : (k : Int) < (nl : Int) := by omega
          obtain ⟨x,hx⟩ : ∃ x,T.lens[k]? = some x := ⟨_,List.getElem?_eq_getElem (by rw [HL.out];exact hlt)⟩
          obtain ⟨ad,rfl,had,ca⟩ := read_cell (u := .int .i64 x) RL.out hlt (by rw [List.getElem?_map,hx];rfl)
          obtain ⟨bd,rfl,hbd,cb⟩ := read_cell (u := .int .i64 x) RL'.out hlt (by rw [List.getElem?_map,hx];rfl)
          have hcell : ∀ v,Newer wr.drew v → v.cell? (ad.add k) = some (.int .i64 x) ∧ v.cell? (bd.add k) = some (.int .i64 x) ∧ v.cell? ⟨w.heap.size,3,none⟩ = some (.slice (some ad) nl cL) ∧ v.cell? ⟨w.heap.size + 1,3,none⟩ = some (.slice (some bd) nl cL') := fun v hv =>
            have h1 := (hB.trans (hN.mono hB.size)).trans (hv.undrew.mono (Nat.le_trans hB.size hN.size))
            have hb1 := (hx1.below hN hx1.lt).below hv.undrew (hx1.below hN hx1.lt).lt
            have hb2 := (hx2.below hN hx2.lt).below hv.undrew (hx2.below hN hx2.lt).lt
            ⟨(h1.cell (p := ad.add k) (by rw [block_of_add];exact had)).trans ca,(h1.cell (p := bd.add k) (by rw [block_of_add];exact hbd)).trans cb,hb1.cell 3,hb2.cell 3⟩
          clear hx ca cb had hbd
          go_wp2_with fail
          refine wp_region_ord Newer.grow [(0,true),(1,true),(2,true),(3,true),(4,true),(5,true),(6,true),(7,true),(8,true),(9,true),(10,true)] [] (by kernel_rfl) (by kernel_rfl) rfl (by kernel_rfl) (by intro _ _ d _ _ h;cases d <;> exact h) ?_
          iterate 11
            (apply wpOrd_take
             · exact rfl
             · intro w1 h1
               (obtain ⟨c1,c2,c3,c4⟩ := hcell w1 h1)
               go_simp
               first
                 | with_reducible exact ⟨rfl,sqN _⟩
             simp only [Act.put,sqA,sqB,sqC])
          refine wpOrd_done fun w3 h3 => ?_
          go_wp2_with fail
          go_roundw
          case rel => exact ⟨k + 1,by omega,by go_num,hN.trans h3.undrew⟩
          case measure => simp [intOf];omega
        · obtain rfl : k = nl := by omega
          have hN0 := hN
          go_wp2_with fail
          go_loopw [7] (fun i wr => ∃ k : Nat,k ≤ nf ∧ i = .int .i64 k ∧ Newer wb wr) (fun i _ => nf - (intOf i).toNat)
          case atStart => exact ⟨0,by omega,rfl,hN0⟩
          case round =>
            obtain ⟨k,hk,rfl,hN⟩ := hrel
            have hb1 := hx1.below hN hx1.lt
            have hb2 := hx2.below hN hx2.lt
            have r1 : wr.cell? ⟨w.heap.size,4,none⟩ = some (.slice AF nf cF) := hb1.cell 4
            have r2 : wr.cell? ⟨w.heap.size + 1,4,none⟩ = some (.slice AF' nf cF') := hb2.cell 4
            clear hb1 hb2
            by_cases hlt : k < nf
            · have hki : (k : Int) < (nf : Int) := by omega
              obtain ⟨x,hx⟩ : ∃ x,T.firsts[k]? = some x := ⟨_,List.getElem?_eq_getElem (by rw [HF.out];exact hlt)⟩
              obtain ⟨ad,rfl,had,ca⟩ := read_cell (u := .int .u64 x) RF.out hlt (by rw [List.getElem?_map,hx];rfl)
              obtain ⟨bd,rfl,hbd,cb⟩ := read_cell (u := .int .u64 x) RF'.out hlt (by rw [List.getElem?_map,hx];rfl)
              have hcell : ∀ v,Newer wr.drew v → v.cell? (ad.add k) = some (.int .u64 x) ∧ v.cell? (bd.add k) = some (.int .u64 x) ∧ v.cell? ⟨w.heap.size,4,none⟩ = some (.slice (some ad) nf cF) ∧ v.cell? ⟨w.heap.size + 1,4,none⟩ = some (.slice (some bd) nf cF') := fun v hv =>
                have h1 := (hB.trans (hN.mono hB.size)).trans (hv.undrew.mono (Nat.le_trans hB.size hN.size))
                have hb1 := (hx1.below hN hx1.lt).below hv.undrew (hx1.below hN hx1.lt).lt
                have hb2 := (hx2.below hN hx2.lt).below hv.undrew (hx2.below hN hx2.lt).lt
                ⟨(h1.cell (p := ad.add k) (by rw [block_of_add];exact had)).trans ca,(h1.cell (p := bd.add k) (by rw [block_of_add];exact hbd)).trans cb,hb1.cell 4,hb2.cell 4⟩
              clear hx ca cb had hbd
              go_wp2_with fail
              refine wp_region_ord Newer.grow [(0,true),(1,true),(2,true),(3,true),(4,true),(5,true),(6,true),(7,true),(8,true),(9,true),(10,true)] [] (by kernel_rfl) (by kernel_rfl) rfl (by kernel_rfl) (by intro _ _ d _ _ h;cases d <;> exact h) ?_
              iterate 11
                (apply wpOrd_take
                 · exact rfl
                 · intro w1 h1
                   (obtain ⟨c1,c2,c3,c4⟩ := hcell w1 h1)
                   go_simp
                   first
                     | with_reducible exact ⟨rfl,sqN _⟩
                 simp only [Act.put,sqA,sqB,sqC])
              refine wpOrd_done fun w3 h3 => ?_
              go_wp2_with fail
              go_roundw
              case rel => exact ⟨k + 1,by omega,by go_num,hN.trans h3.undrew⟩
              case measure => simp [intOf];omega
            · obtain rfl : k = nf := by omega
              go_wp2_with fail
              go_ret
              exact ⟨rfl,hB.trans (hN.mono hB.size)⟩
end Go.Proofs.YtidacaihmjdmkaaGreat
namespace Go.Proofs.YtidacaihmjdmkaaGreat
open Go.RowKit
attribute [local go_sem high] run_mx run_mn
attribute [local go_sem] run_store_flt
abbrev cZ : Cnf := ⟨0,0,0,0⟩
theorem cF_may : cF.may = true := by decide
theorem cF_sec : cF.sectors = 14 := by decide
theorem recOf_fitsL (s : LSt) (hs : s.Ok) (id : ByteArray) (ver : Int) (hv : 0 ≤ ver ∧ ver < 18446744073709551616) (hid : id.size ≤ 16) : (s.recOf 1 (liveR id ver)).Fits := by
  have hl := hs.lsn
  exact ⟨by show 0 ≤ s.lsn ∧ s.lsn < _;omega,by show (0 : Int) ≤ 1 ∧ (1 : Int) < _;omega,by show (-9223372036854775808 : Int) ≤ 1 ∧ (1 : Int) ≤ 9223372036854775807;omega,hv,by show (0 : Int) ≤ 9 ∧ (9 : Int) < _;omega,by show id.size ≤ _;omega,by show (1 : Nat) ≤ _;omega⟩
set_option maxHeartbeats 16000000 in
theorem fixed_any (w : World) : Calls Tryz.prog 14 #[] w fun e w' => e = .returned (.bool true) ∧ Newer w w' := by
  have hm1 := fun v => made_ok 14 cF (by decide) cF_may (by rw [cF_sec];decide) (by decide) v
  have hm2 := fun v => made_full 13 cF (by decide) cF_may (by rw [cF_sec];decide) (by decide) (by decide) v
  have hm3 := fun v => made_arg 14 cZ (by decide) (by decide) (by decide) (by decide) v
  have hlv := live_any
  have hap1 := fun g gd AO cO AL cL AF cF v (M : List Thing) (h : Now (fun _ => False) w v (fs0.parts g gd 1 AO cO AL cL AF cF ++ M)) => Append_any fs0 fs0_ok (seal_ok fs0_ok 1 (by decide) (by show fD0.pend.length + 1 ≤ _;rw [fD0_is.2.2];decide)) g gd (by decide) (liveR bA 1) (recOf_fitsL _ fs0_ok _ _ (by decide) (by decide)) AO cO AL cL AF cF h
  have hap2 := fun g gd AO cO AL cL AF cF v (M : List Thing) (h : Now (fun _ => False) w v (fs1.parts g gd 1 AO cO AL cL AF cF ++ M)) => Append_any fs1 fs1_ok (seal_ok fs1_ok 1 (by decide) (Nat.le_trans (Nat.succ_le_succ (show fD1.pend.length ≤ 10 by unfold fD1;rw [pend_write,fD0_is.2.2];decide)) (by decide))) g gd (by decide) (liveR bB 2) (recOf_fitsL _ fs1_ok _ _ (by decide) (by decide)) AO cO AL cL AF cF h
  have hap3 := fun g gd AO cO AL cL AF cF v (M : List Thing) (h : Now (fun _ => False) w v (fs2.parts g gd 1 AO cO AL cL AF cF ++ M)) => Append_any fs2 fs2_ok (seal_ok fs2_ok 1 (by decide) (Nat.le_trans (Nat.succ_le_succ (show fD2.pend.length ≤ 10 by unfold fD2 fD1;rw [pend_write,pend_write,fD0_is.2.2];decide)) (by decide))) g gd (by decide) (liveR bC 3) (recOf_fitsL _ fs2_ok _ _ (by decide) (by decide)) AO cO AL cL AF cF h
  have hap4 := fun g gd AO cO AL cL AF cF v (M : List Thing) (h : Now (fun _ => False) w v (fs3.parts g gd 1 AO cO AL cL AF cF ++ M)) => Append_any fs3 fs3_ok (seal_ok fs3_ok 1 (by decide) (Nat.le_trans (Nat.succ_le_succ (show fD3.pend.length ≤ 10 by rw [fD3_is.2.2];decide)) (by decide))) g gd (by decide) footRec (by constructor <;> decide) AO cO AL cL AF cF h
  have hrd5 := fun g gd AO cO AL cL AF cF v (M : List Thing) (h : Now (fun _ => False) w v (fs3.parts g gd 1 AO cO AL cL AF cF ++ M)) => Read_any fs3 fs3_ok g gd 1 1 0 AO cO AL cL AF cF h
  have hrd6 := fun g gd AO cO AL cL AF cF v (M : List Thing) (h : Now (fun _ => False) w v (fs3.parts g gd 1 AO cO AL cL AF cF ++ M)) => Read_any fs3 fs3_ok g gd 1 0 2 AO cO AL cL AF cF h
  simp only [fa1] at hap1
  simp only [fa2] at hap2
  simp only [fa3] at hap3
  simp only [fx4] at hap4
  simp only [fr3] at hrd5
  simp only [fr4] at hrd6
  have e3 : (liveAt 4 bC 3).value = .agg #[.int .u64 4, .int .u32 1, .int .i64 1, .int .u64 3, .int .u64 9, .string ⟨#[99]⟩, .string ⟨#[118]⟩] := rfl
  have e4 : noRec.value = .agg #[.int .u64 0, .int .u32 0, .int .i64 0, .int .u64 0, .int .u64 0, .string ⟨#[]⟩, .string ⟨#[]⟩] := rfl
  have e5 : (footR 3 1 1).value = .agg #[.int .u64 3, .int .u32 1, .int .i64 3, .int .u64 0, .int .u64 1, .string ⟨#[]⟩, .string ⟨#[]⟩] := rfl
  simp only [e3] at hrd5
  simp only [e4] at hrd6
  have hdR := fun gd v (pre post : List Thing) (h : Now (fun _ => False) w v (pre ++ dskT gd fD3 :: post)) => Loc.atZ (LRead gd fD3 4 (by rw [fD3_is.2.2];decide)) pre post h
  simp only [ff.1,ff.2] at hdR
  have hdF := fun v => RDecode_any (footR 3 1 1).sector v
  simp only [fdec,e5] at hdF
  generalize (footR 3 1 1).sector = SF at *
  have hpn := fun gd v (pre post : List Thing) (h : Now (fun _ => False) w v (pre ++ dskT gd fD3 :: post)) => NPending gd fD3 v _ (Now.get h).choose_spec
  rw [fD3_is.2.2] at hpn
  have hdb := fun g gd AO cO AL cL AF cF v (M : List Thing) (h : Now (fun _ => False) w v (fs3.parts g gd 1 AO cO AL cL AF cF ++ M)) => LDrop_bad g gd fs3.T fs3_ok.t AO cO AL cL AF cF 5 1 1 1 3 fD3 (by decide) h
  have hdo : ∀ g gd AO cO AL cL AF cF v (M : List Thing) (h : Now (fun _ => False) w v (fs3.parts g gd 1 AO cO AL cL AF cF ++ M)),Calls Tryz.prog 59 #[.pointer (some ⟨g,0,none⟩), .int .i64 0, .int .u64 3] v fun e w' => e = .returned (.int .i64 0) ∧ GotLog (fun _ => False) w w' fs5 g gd 1 M := fun g gd AO cO AL cL AF cF v M h => by
    have hk : ckDo fD3 1 ⟨((fs3.T.drop 0).chk (1 + 1) 1 5 3).enc.toArray⟩ = (0,2,fD5) := fk3
    have h1 := LDrop_ok g gd fs3.T fs3_ok.t AO cO AL cL AF cF 5 1 1 0 3 fD3 (by rw [fD3_is.2.2];decide) (by decide) (by decide) (by decide) (by decide) 0 (by decide) (by decide) h
    rw [hk] at h1
    exact h1
  have hdR5 := fun gd v (pre post : List Thing) (h : Now (fun _ => False) w v (pre ++ dskT gd fD5 :: post)) => Loc.atZ (LRead gd fD5 0 (by unfold fD5;rw [(flush_is _).2.2];decide)) pre post h
  simp only [fd5.1,fd5.2] at hdR5
  have hdk : ∀ v,Calls Tryz.prog 60 #[.string fE5] v fun e w' => ∃ AO cO AL cL,e = .returned (.tuple #[.agg #[.int .u64 2, .int .u32 1, .int .u64 5, .int .u64 3, .slice AO 1 cO, .slice AL 1 cL], .int .i64 0]) ∧ Sep v w' [Thing.row 3 1 (.slice AO 1 cO) 1 (ints [1]),Thing.row 3 1 (.slice AL 1 cL) 1 (ints [1])] := fun v => by
    have h1 := Decode_chk fE5 v
    unfold DecOut at h1
    rw [fdecC] at h1
    exact h1
  generalize fE5 = E5 at *
  unfold liveR Rec.value bA at hap1
  unfold liveR Rec.value bB at hap2
  unfold liveR Rec.value bC at hap3
  unfold footRec Rec.value at hap4
  unfold liveR Rec.value at hlv
  have hS1 := Now.pushCells (Sep.start w) 24 cF.cells
  go_enter Tryz.func14,Tryz.ntmps14
  go_wp2_with (first
    | (have _g := hm1;go_at_call 12;refine (hm1 _).mono ?_;rintro e w1 ⟨g,gd,rfl,A1,k1,A2,k2,A3,k3,hO⟩;have hC : Now (fun _ => False) w w1 (fs0.parts g gd 1 A1 k1 A2 k2 A3 k3 ++ [Thing.cells w.heap.size 24 cF.cells]) := Now.pushAll hS1 hO;have hc := Now.blk (pre:=[_,_,_,_,_]) hC;have c0 : w1.cell? ⟨w.heap.size,0,none⟩ = some (Value.int .i64 4) := hc.cell 0;have c1 : w1.cell? ⟨w.heap.size,1,none⟩ = some (Value.int .i64 2) := hc.cell 1;have c2 : w1.cell? ⟨w.heap.size,2,none⟩ = some (Value.float .f64 4607182418800017408) := hc.cell 2;have c3 : w1.cell? ⟨w.heap.size,3,none⟩ = some (Value.int .i64 0) := hc.cell 3;clear hS1 hO hm1 hc _g)
    | (have _g := hm2;go_at_call 12;refine (hm2 _).mono ?_;rintro e w2 ⟨gd2,rfl,hB⟩;replace hC := Now.below hC hB;clear hm2 hB c0 c1 c2 c3 _g)
    | (have _g := hm3;go_at_call 12;refine (hm3 _).mono ?_;rintro e w3 ⟨gd3,rfl,hB⟩;replace hC := Now.below hC hB;clear hm3 hB _g)
    | (go_at_call 55;(with_reducible refine (hlv _ _ _).mono ?_);rintro e wl ⟨rfl,hB⟩;replace hC := Now.below hC hB;clear hB)
    | (have _g := hap1;go_at_call 34;have hap := hap1 g gd A1 k1 A2 k2 A3 k3 _ _ hC;clear hap1 hC _g;refine hap.mono ?_;clear hap;rintro e w4 ⟨rfl,A1,k1,A2,k2,A3,k3,hC⟩;replace hC := Now.perm (Now.pushCells hC 90 #[.int .i64 0, .int .i64 0]) List.perm_middle.symm)
    | (have _g := hap2;go_at_call 34;have hap := hap2 g gd A1 k1 A2 k2 A3 k3 _ _ hC;clear hap2 hC _g;refine hap.mono ?_;clear hap;rintro e w5 ⟨rfl,A1,k1,A2,k2,A3,k3,hC⟩;replace hC := Now.perm (Now.pushCells hC 90 #[.int .i64 0, .int .i64 1]) List.perm_middle.symm)
    | (have _g := hap3;go_at_call 34;have hap := hap3 g gd A1 k1 A2 k2 A3 k3 _ _ hC;clear hap3 hC _g;refine hap.mono ?_;clear hap;rintro e w6 ⟨rfl,A1,k1,A2,k2,A3,k3,hC⟩;replace hC := Now.perm (Now.pushCells hC 90 #[.int .i64 1, .int .i64 0]) List.perm_middle.symm)
    | (have _g := hap4;go_at_call 34;have hap := hap4 g gd A1 k1 A2 k2 A3 k3 _ _ hC;clear hap4 hC _g;refine hap.mono ?_;clear hap;rintro e w7 ⟨rfl,A1,k1,A2,k2,A3,k3,hC⟩;replace hC := Now.perm (Now.pushCells hC 90 #[.int .i64 0, .int .i64 0]) List.perm_middle.symm;have hxb := Now.blk (pre:=[_,_,_,_,_,_]) hC;have x0 : _ = some (Value.int .i64 1) := hxb.cell 0;have x1 : _ = some (Value.int .i64 0) := hxb.cell 1;clear hxb)
    | (have _g := hrd5;go_at_call 56;have hap := hrd5 g gd A1 k1 A2 k2 A3 k3 _ _ hC;clear hrd5 hC _g x0 x1;refine hap.mono ?_;clear hap;rintro e w8 ⟨rfl,hC⟩;replace hC := Now.perm (Now.pushCells hC 46 #[.int .u64 4, .int .u32 1, .int .i64 1, .int .u64 3, .int .u64 9, .string ⟨#[99]⟩, .string ⟨#[118]⟩]) List.perm_middle.symm)
    | (have _g := hrd6;go_at_call 56;have hap := hrd6 g gd A1 k1 A2 k2 A3 k3 _ _ hC;clear hrd6 hC _g;refine hap.mono ?_;clear hap;rintro e w9 ⟨rfl,hC⟩;replace hC := Now.perm (Now.pushCells hC 46 #[.int .u64 0, .int .u32 0, .int .i64 0, .int .u64 0, .int .u64 0, .string ⟨#[]⟩, .string ⟨#[]⟩]) List.perm_middle.symm)
    | (have _g := hdR;go_at_call 57;have hap := hdR gd _ [_,_,_,_] _ hC;clear hdR hC _g;refine hap.mono ?_;clear hap;rintro e w10 ⟨rfl,_,hC⟩)
    | (have _g := hdF;go_at_call 58;(with_reducible refine (hdF _).mono ?_);rintro e w11 ⟨rfl,hB⟩;replace hC := Now.perm (Now.pushCells (show Now (fun _ => False) w w11 (fs3.parts g gd 1 A1 k1 A2 k2 A3 k3 ++ _) from Now.below hC hB) 46 #[.int .u64 3, .int .u32 1, .int .i64 3, .int .u64 0, .int .u64 1, .string ⟨#[]⟩, .string ⟨#[]⟩]) List.perm_middle.symm;clear hdF hB _g)
    | (have _g := hpn;go_at_call 19;refine (hpn gd _ [_,_,_,_] _ hC).mono ?_;rintro e w12 ⟨rfl,hB⟩;replace hC := Now.below hC hB;clear hpn hB _g)
    | (have _g := hdb;go_at_call 59;have hap := hdb g gd A1 k1 A2 k2 A3 k3 _ _ hC;clear hdb hC _g;refine hap.mono ?_;clear hap;rintro e w13 ⟨rfl,hC⟩)
    | (have _g := hdo;go_at_call 59;have hap := hdo g gd A1 k1 A2 k2 A3 k3 _ _ hC;clear hdo hC _g;refine hap.mono ?_;clear hap;rintro e w14 ⟨rfl,A1,k1,A2,k2,A3,k3,hC⟩)
    | (have _g := hdR5;go_at_call 57;have hap := hdR5 gd _ [_,_,_,_] _ hC;clear hdR5 hC _g;refine hap.mono ?_;clear hap;rintro e w15 ⟨rfl,_,hC⟩)
    | (have _g := hdk;go_at_call 60;(with_reducible refine (hdk _).mono ?_);rintro e w16 ⟨B1,j1,B2,j2,rfl,hO⟩;replace hC := Now.pushCells (Now.pushAll hC hO) 61 #[.int .u64 2, .int .u32 1, .int .u64 5, .int .u64 3, .slice B1 1 j1, .slice B2 1 j2];clear hdk hO _g;
        have hy := Now.blk (pre:=[]) hC;have y0 : _ = some (Value.int .u64 2) := hy.cell 0;have y2 : _ = some (Value.int .u64 5) := hy.cell 2;have y3 : _ = some (Value.int .u64 3) := hy.cell 3;have y4 : _ = some (Value.slice B1 1 j1) := hy.cell 4;have y5 : _ = some (Value.slice B2 1 j2) := hy.cell 5;
        have hf := Now.blk (pre:=[_,_,_,_,_,_,_,_]) hC;have f0 : _ = some (Value.int .u64 3) := hf.cell 0;have f2 : _ = some (Value.int .i64 3) := hf.cell 2;have f4 : _ = some (Value.int .u64 1) := hf.cell 4;
        have hr := Now.blk (pre:=[_,_,_,_,_,_,_,_,_,_]) hC;have r0 : _ = some (Value.int .u64 4) := hr.cell 0;have r5 : _ = some (Value.string ⟨#[99]⟩) := hr.cell 5;
        have hx := Now.blk (pre:=[_,_,_,_,_,_,_,_,_,_,_,_]) hC;have x0 : _ = some (Value.int .i64 1) := hx.cell 0;have x1 : _ = some (Value.int .i64 0) := hx.cell 1;
        have hb := Now.blk (pre:=[_,_,_,_,_,_,_,_,_,_,_,_,_]) hC;have b0 : _ = some (Value.int .i64 0) := hb.cell 0;have b1 : _ = some (Value.int .i64 1) := hb.cell 1;
        have ha := Now.blk (pre:=[_,_,_,_,_,_,_,_,_,_,_,_,_,_]) hC;have a0 : _ = some (Value.int .i64 0) := ha.cell 0;have a1 : _ = some (Value.int .i64 0) := ha.cell 1;clear hy hf hr hx hb ha;have HI1 := (trivial : True))
    | (have _g := HI1;go_at_call 48;have hI := Now.pushRow hC 3 #[.int .i64 1] (by simp [maxLen]);simp only [World.size_alloc] at hI;have hi := Ints_any [1] [1] B1 (some ⟨w16.heap.size + 1,0,none⟩) j1 1 (by decide) (by decide) _ (Reads.of_own (Now.row (pre:=[_,_]) hI)) (Reads.of_own (Now.row (pre:=[]) hI));refine hi.mono ?_;clear hi hC y0 y2 y3 y4 y5 f0 f2 f4 r0 r5 x0 x1 b0 b1 a0 a1 HI1 _g;rintro e w17 ⟨rfl,hB⟩;have hC := Now.below hI hB;clear hI hB;have hy := Now.blk (pre:=[_]) hC;have y5 : w17.cell? _ = some (Value.slice B2 1 j2) := hy.cell 5;clear hy;have HI2 := (trivial : True))
    | (have _g := HI2;go_at_call 48;have hI := Now.pushRow hC 3 #[.int .i64 1] (by simp [maxLen]);have hi := Ints_any [1] [1] B2 (some ⟨w17.heap.size,0,none⟩) j2 1 (by decide) (by decide) _ (Reads.of_own (Now.row (pre:=[_,_,_,_]) hI)) (Reads.of_own (Now.row (pre:=[]) hI));refine hi.mono ?_;clear hi hC y5 HI2 _g;rintro e w18 ⟨rfl,hB⟩;have hC := Now.below hI hB;clear hI hB;obtain ⟨t1,rfl,_,_⟩ := read_cell (k := 0) (u := .int .i64 1) (Reads.of_own (Now.row (pre:=[_,_,_,_,_,_]) hC)) (by decide) rfl;obtain ⟨t2,rfl,_,_⟩ := read_cell (k := 0) (u := .int .i64 1) (Reads.of_own (Now.row (pre:=[_,_,_,_,_,_,_]) hC)) (by decide) rfl;obtain ⟨t3,rfl,_,_⟩ := read_cell (k := 0) (u := .int .u64 4) (Reads.of_own (Now.row (pre:=[_,_,_,_,_,_,_,_]) hC)) (by decide) rfl)
    | (go_at_call 45;(with_reducible refine (Gen_any g gd fT5 _ k1 _ k2 _ k3 5 1 2 _ (Now.blk (pre:=[_,_,_,_,_]) hC)).mono ?_);rintro e w19 ⟨rfl,rfl⟩)
    | (go_at_call 43;(with_reducible refine (LSN_any g gd fT5 _ k1 _ k2 _ k3 5 1 2 _ (Now.blk (pre:=[_,_,_,_,_]) hC)).mono ?_);rintro e w19 ⟨rfl,rfl⟩)
    | (go_at_call 44;(with_reducible refine (Epoch_any g gd fT5 _ k1 _ k2 _ k3 5 1 2 _ (Now.blk (pre:=[_,_,_,_,_]) hC)).mono ?_);rintro e w19 ⟨rfl,rfl⟩)
    | (go_at_call 47;refine (Table_any g gd fT5 fT5_ok t1 k1 t2 k2 t3 k3 5 1 2 _ (Now.blk (pre:=[_,_,_,_,_]) hC) (tabIn_of (pre:=[_,_,_,_,_,_]) hC)).mono ?_;rintro e w20 ⟨C1,m1,C2,m2,C3,m3,rfl,hO⟩;replace hC := Now.pushAll hC hO;clear hO)
    | (go_at_call 38;(with_reducible refine (LRef_any fT5 C1 m1 C2 m2 C3 m3 _).mono ?_);rintro e w21 ⟨rfl,hB⟩;replace hC := Now.below hC hB;clear hB)
    | (go_at_call 46;have hI := Now.pushRow (Now.pushRow (Now.pushRow hC 3 #[.int .i64 1] (by simp [maxLen])) 3 #[.int .i64 1] (by simp [maxLen])) 43 #[.int .u64 4] (by simp [maxLen]);simp only [World.size_alloc] at hI;refine (Same_yes fT5 fT5_ok.short C1 C2 C3 (some ⟨w21.heap.size,0,none⟩) (some ⟨w21.heap.size + 1,0,none⟩) (some ⟨w21.heap.size + 1 + 1,0,none⟩) m1 m2 m3 1 1 1 _ (tabIn_of (pre:=[_,_,_]) hI) ⟨Reads.of_own (Now.row (pre:=[_,_]) hI),Reads.of_own (Now.row (pre:=[_]) hI),Reads.of_own (Now.row (pre:=[]) hI)⟩).mono ?_;clear hC;rintro e w22 ⟨rfl,hB⟩;have hC := Sep.base (Now.below hI hB);clear hI hB))
  go_ret
  exact ⟨rfl,hC⟩
end Go.Proofs.YtidacaihmjdmkaaGreat
namespace Go.Proofs.YtidacaihmjdmkaaGreat
open Go.ChangeShapes Go.WideShapes Go.ChangeAt Go.RowKit Go.Deep
inductive FK where
  | int (k : IntKind)
  | str
  | bool
  | flt
def FK.desc : FK → TypeDesc
  | .int k => .int k
  | .str => .string
  | .bool => .bool
  | .flt => .float .f64
def FK.Good : FK → Value → Prop
  | .int k,v => ∃ n,v = .int k n ∧ (Lit.int k n).wf = true
  | .str,v => ∃ s : ByteArray,v = .string s ∧ s.size ≤ maxLen
  | .bool,v => ∃ b,v = .bool b
  | .flt,v => ∃ b,v = .float .f64 b ∧ (Lit.float .f64 b).wf = true
def FlatP (P : Program) : Nat → List Field → List FK → Prop
  | _,[],[] => True
  | n,f :: fs,k :: ks => P.underlying f.type = some k.desc ∧ P.cellsOf f.type = 1 ∧ f.offset = n ∧ FlatP P (n + 1) fs ks
  | _,_,_ => False
section
variable {H : Type} {enc : TypeId × Value → H} {P : Program} {W : World} {b0 : Nat}
theorem trod_flt {t : TypeId} {fuel : Nat} {cs : List Value} {x : DataW H × List MemPlace} (ht : P.underlying t = some (.float .f64)) (h : DataW.trod enc P W 0 (fun _ => true) true fuel t cs = some x) : ∃ b,cs = [.float .f64 b] ∧ (Lit.float .f64 b).wf = true := by
  cases fuel with
  | zero => simp [DataW.trod] at h
  | succ n =>
    match cs,h with
    | [],h => simp [DataW.trod,ht] at h
    | [c],h =>
      cases c with
      | float k b =>
        cases k with
        | f64 =>
          by_cases hw : (Lit.float .f64 b).wf = true
          · exact ⟨b,rfl,hw⟩
          · simp [DataW.trod,ht,hw] at h
        | f32 => simp [DataW.trod,ht] at h
      | _ => simp [DataW.trod,ht] at h
    | _ :: _ :: _,h => simp [DataW.trod,ht] at h
theorem trod_fk {k : FK} {t : TypeId} {fuel : Nat} {cs : List Value} {x : DataW H × List MemPlace} (hu : P.underlying t = some k.desc) (h : DataW.trod enc P W 0 (fun _ => true) true fuel t cs = some x) : ∃ v,cs = [v] ∧ k.Good v := by
  cases k with
  | int k => obtain ⟨n,e,_,w⟩ := DataW.trod_int hu h;exact ⟨_,e,n,rfl,w⟩
  | str => obtain ⟨s,e,_,w⟩ := DataW.trod_string hu h;exact ⟨_,e,s,rfl,w⟩
  | bool => obtain ⟨b,e,_⟩ := DataW.trod_bool hu h;exact ⟨_,e,b,rfl⟩
  | flt => obtain ⟨b,e,w⟩ := trod_flt hu h;exact ⟨_,e,b,rfl,w⟩
def GoodAll : List FK → List Value → Prop
  | [],[] => True
  | k :: ks,v :: vs => k.Good v ∧ GoodAll ks vs
  | _,_ => False
theorem GoodAll.cons {k : FK} {ks : List FK} {vs : List Value} (h : GoodAll (k :: ks) vs) : ∃ v us,vs = v :: us ∧ k.Good v ∧ GoodAll ks us := by
  cases vs with
  | nil => exact h.elim
  | cons v us => exact ⟨v,us,rfl,h.1,h.2⟩
theorem GoodAll.nil {vs : List Value} (h : GoodAll [] vs) : vs = [] := by
  cases vs with
  | nil => rfl
  | cons v us => exact h.elim
theorem flat_good : ∀ (fs : List Field) (ks : List FK) (n m : Nat) (cs : List Value),FlatP P n fs ks → cs.length = n + fs.length →
    (∀ (j : Nat) (f : Field),fs[j]? = some f → ∃ y,DataW.trod enc P W 0 (fun _ => true) true m f.type ((cs.drop f.offset).take (P.cellsOf f.type)) = some y) → GoodAll ks (cs.drop n)
  | [],[],n,m,cs,_,hl,_ => by
    rw [List.drop_of_length_le (by simpa using Nat.le_of_eq hl)];exact trivial
  | f :: fs,k :: ks,n,m,cs,⟨hu,hc,ho,hr⟩,hl,hf => by
    obtain ⟨y,hy⟩ := hf 0 f rfl
    rw [hc,ho] at hy
    obtain ⟨v,hv,hg⟩ := trod_fk hu hy
    have hlt : n < cs.length := by rw [hl];simp
    have hd := List.drop_eq_getElem_cons hlt
    have : cs[n] = v := by
      rw [hd,List.take_succ_cons,List.take_zero] at hv
      injection hv
    rw [hd]
    rw [this]
    exact ⟨hg,flat_good fs ks (n + 1) m cs hr (by rw [hl];simp;omega) (fun j f' hj => hf (j + 1) f' (by simpa using hj))⟩
  | [],_ :: _,_,_,_,h,_,_ => h.elim
  | _ :: _,[],_,_,_,h,_,_ => h.elim
theorem opened_flat {t : TypeId} {fs : Array Field} {ks : List FK} {v : Value} {d : DataW H} {ps : List MemPlace} (hu : P.underlying t = some (.struct fs)) (hk : FlatP P 0 fs.toList ks) (hn : P.cellsOf t = fs.toList.length)
    (hv : Value.okWide P W .any b0 t v) (h : DataW.Trod enc P W 0 (fun _ => true) true t v d ps) : ∃ vs : List Value,v = .agg vs.toArray ∧ GoodAll ks vs := by
  simp only [Value.okWide,hu] at hv
  obtain ⟨cs,rfl,_⟩ := hv
  obtain ⟨fuel,hf⟩ := h
  obtain ⟨xs,n,_,_,hl,hlen,hat⟩ := DataW.trod_struct hu hf
  refine ⟨cs.toList,by simp,?_⟩
  have hl : cs.toList.length = P.cellsOf t := hl
  have := flat_good fs.toList ks 0 n cs.toList hk (by rw [hl,hn];simp) (fun j f hj => by
    have hlt : j < xs.length := by
      rw [hlen]
      have := (List.getElem?_eq_some_iff.1 hj).1
      simpa using this
    exact ⟨xs[j],by
      have h2 := hat j f (by simpa using hj)
      rw [List.getElem?_eq_getElem hlt] at h2
      exact h2⟩)
  simpa using this
end
end Go.Proofs.YtidacaihmjdmkaaGreat
