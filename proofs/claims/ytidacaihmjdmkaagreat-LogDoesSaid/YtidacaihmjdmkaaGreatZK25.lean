/- What the laws of this seat lean on, part 25. -/
import Derived.Test.YtidacaihmjdmkaaGreatZK24
import Derived.Test.YtidacaihmjdmkaaGreatZK4
import Derived.Test.YtidacaihmjdmkaaGreatZK20
import Derived.Test.YtidacaihmjdmkaaGreatZK16
import Derived.Test.YtidacaihmjdmkaaGreatZK13
import Derived.Test.YtidacaihmjdmkaaGreatZK10
set_option linter.unusedSimpArgs false
set_option linter.unusedVariables false
set_option maxRecDepth 100000
namespace Go.Proofs.YtidacaihmjdmkaaGreat
open Go.RowKit
attribute [local go_sem high] run_mx run_mn
theorem right_any (rc : Rec) (a b x y : Int) (h : ({ rc with lsn := a,epoch := x } : Rec).right = true) (ha : a ≠ 0) (hb : b ≠ 0) : ({ rc with lsn := b,epoch := y } : Rec).right = true := by
  have h1 : (b == 0) = false := beq_eq_false_iff_ne.2 hb
  have h2 : (a == 0) = false := beq_eq_false_iff_ne.2 ha
  unfold Rec.right at h ⊢
  simp only [h1,h2] at h ⊢
  exact h
section
variable {epoch : Int}
set_option maxHeartbeats 16000000 in
theorem RApp_roll (s : LSt) (hs : s.Ok) (hok : (s.seal epoch).2.Ok) (r : RDsk) (hRl : Rel s.d r) (g gd : Nat) (he : 0 ≤ epoch ∧ epoch < 4294967296) (rc : Rec) (hF : (s.recOf epoch rc).Fits) (hk : rc.kind ≠ 3) (hR : (s.recOf epoch rc).right = true) (hroom : s.T.room ≠ 0) (hlt : s.T.last = s.T.slots) (ae ag asl : Int) (s' : LSt) (hans : (if (s.seal epoch).1 = 0 then (s.seal epoch).2.put epoch rc else ((s.seal epoch).1,0,0,(s.seal epoch).2)) = (ae,ag,asl,s')) (AO : Option Addr) (cO : Nat) (AL : Option Addr) (cL : Nat) (AF : Option Addr) (cF : Nat)
    {S0 : Nat → Prop} {w0 w : World} {L : List Thing} (hS : Now S0 w0 w (rlogParts g gd s.T AO cO AL cL AF cF s.lsn epoch s.gen r ++ L)) :
    Calls Tryz.prog 67 #[.pointer (some ⟨g,0,none⟩),rc.value] w fun e w' => e = .returned (.tuple #[.agg #[.int .i64 ag, .int .i64 asl], .int .i64 ae]) ∧ GotR S0 w0 w' s' g gd epoch L := by
  have hseal := fun L' v (h : Now S0 w0 v (rlogParts g gd s.T AO cO AL cL AF cF s.lsn epoch s.gen r ++ L')) => RSeal_any s hs r hRl g gd epoch he AO cO AL cL AF cF h
  have hsl0 : (s.seal epoch).1 = 0 → (s.seal epoch).2.T.last = 0 := fun h => seal_last h
  obtain ⟨se,s2,hs2⟩ : ∃ se s2,s.seal epoch = (se,s2) := ⟨_,_,rfl⟩
  rw [hs2] at hans hok hsl0
  simp only [hs2] at hseal
  have HANS := Lib.hid hans
  clear hs2 hans
  obtain ⟨T,lsn,gen,d⟩ := s
  obtain ⟨r0,r1,r2,r3,r4,r5,r6⟩ := rc
  have hT : T.Ok := hs.t
  have hRl : Rel d r := hRl
  have hgw : g < w.heap.size := (Now.blk (pre:=[]) hS).lt
  have c6 : w.cell? ⟨g,6,none⟩ = some (.int .u64 lsn) := (Now.blk (pre:=[]) hS).cell 6
  have c7 : w.cell? ⟨g,7,none⟩ = some (.int .u32 epoch) := (Now.blk (pre:=[]) hS).cell 7
  have hne1 : g ≠ w.heap.size := Nat.ne_of_lt hgw
  have hne2 : g ≠ w.heap.size + 1 := by omega
  have hS1 : Now S0 w0 ((w.alloc (.cells #[.int .u64 lsn, .int .u32 epoch, .int .i64 r2, .int .u64 r3, .int .u64 r4, .string r5, .string r6] 118)).alloc (.cells #[.int .i64 0, .int .i64 0] 90)) (rlogParts g gd T AO cO AL cL AF cF lsn epoch gen r ++ (Thing.cells (w.heap.size + 1) 90 #[.int .i64 0, .int .i64 0] :: Thing.cells w.heap.size 118 #[.int .u64 lsn, .int .u32 epoch, .int .i64 r2, .int .u64 r3, .int .u64 r4, .string r5, .string r6] :: L)) := by
    have h1 := Now.pushCells (Now.pushCells hS 118 #[.int .u64 lsn, .int .u32 epoch, .int .i64 r2, .int .u64 r3, .int .u64 r4, .string r5, .string r6]) 90 #[.int .i64 0, .int .i64 0]
    simp only [World.size_alloc] at h1
    exact Now.perm h1 (List.perm_append_comm_assoc [_,_] (rlogParts g gd T AO cO AL cL AF cF lsn epoch gen r) L)
  have hRt := fun v => RRight_any _ hF v
  unfold Rec.value at hRt ⊢
  unfold LSt.recOf at *
  dsimp only at *
  obtain ⟨N,hNN⟩ : ∃ N,T.segs.toNat = N := ⟨_,rfl⟩
  have hN : T.segs = N := by rw [← hNN];exact hT.segsN
  have hRm := fun v h => RRoom_any T hT N hN AO cO AL cL AF cF v h
  rw [hR] at hRt
  have h3b : (r2 == 3) = false := beq_eq_false_iff_ne.2 hk
  have HN := Lib.hid hN
  clear hN hNN
  have hroom2 : (T.room == 0) = false := beq_eq_false_iff_ne.2 hroom
  have hlt2 : (T.last == T.slots) = true := by rw [hlt];simp
  have HFO := Lib.hid hF
  have HRO := Lib.hid hR
  obtain ⟨lsnB,hlB⟩ : ∃ l,lsn = l := ⟨_,rfl⟩
  have HLB := Lib.hid hlB
  have HLT := Lib.hid hlt
  have hlsn0 : 1 ≤ lsn ∧ lsn < 1000000 := hs.lsn
  clear hS hF hs hR hk hroom hlB hlt
  go_enter Tryz.func67,Tryz.ntmps67
  go_wp2_with (first
    | (go_at_call 125;(with_reducible refine (hRt _).mono ?_);rintro e w7 ⟨rfl,hB⟩;have hS := Now.below hS1 hB;clear hB hRt hS1;have hlog := Now.blk (pre:=[]) hS;have c1 : w7.cell? ⟨g,1,none⟩ = some (Value.int .i64 T.segs) := hlog.cell 1;have c2 : w7.cell? ⟨g,2,none⟩ = some (Value.int .i64 T.slots) := hlog.cell 2;have c3 : w7.cell? ⟨g,3,none⟩ = some (Value.slice AO T.order.length cO) := hlog.cell 3;have c4 : w7.cell? ⟨g,4,none⟩ = some (Value.slice AL T.lens.length cL) := hlog.cell 4;have c5 : w7.cell? ⟨g,5,none⟩ = some (Value.slice AF T.firsts.length cF) := hlog.cell 5;clear hlog)
    | (go_at_call 51;(with_reducible refine (hRm _ (tabIn_of (pre:=[_]) hS)).mono ?_);rintro e w8 ⟨rfl,hB⟩;replace hS := Now.below hS hB;clear hB hRm c1 c2 c3 c4 c5))
  have hlog := Now.blk (pre:=[]) hS
  have htab := tabIn_of (pre:=[_]) hS
  have hop := fun v (hv : Newer w8.drew v) => ropen_any g gd T hT AO cO AL cL AF cF lsn epoch gen v (hlog.below hv.undrew hlog.lt) w8.heap.size (htab.below hv.undrew).o hv.size
  have hle := fun v (hv : Newer w8.drew v) => RLen_any T hT AO cO AL cL AF cF T.open_ v ((htab.below hv.undrew).more hv.size)
  rw [T.len_open hT] at hle
  have hcell : ∀ v,Newer w8.drew v → v.cell? ⟨g,1,none⟩ = some (.int .i64 T.segs) ∧ v.cell? ⟨g,2,none⟩ = some (.int .i64 T.slots) ∧ v.cell? ⟨g,3,none⟩ = some (.slice AO T.order.length cO) ∧ v.cell? ⟨g,4,none⟩ = some (.slice AL T.lens.length cL) ∧ v.cell? ⟨g,5,none⟩ = some (.slice AF T.firsts.length cF) := fun v hv => by
    have hb1 := hlog.below hv.undrew hlog.lt
    exact ⟨hb1.cell 1,hb1.cell 2,hb1.cell 3,hb1.cell 4,hb1.cell 5⟩
  replace hS := hS.drew
  clear hlog htab
  refine wp_region_ord Newer.grow [(0,true),(1,true),(2,true),(3,true),(4,true),(5,true),(6,true),(7,true),(8,true),(9,true),(10,true),(11,true),(12,true)] [] (by kernel_rfl) (by kernel_rfl) rfl (by kernel_rfl) (by intro _ _ d _ _ h;cases d <;> exact h) ?_
  iterate 13
    (apply wpOrd_take
     · exact rfl
     · intro w1 h1
       (obtain ⟨c1,c2,c3,c4,c5⟩ := hcell w1 h1)
       go_simp
       first
         | with_reducible exact ⟨rfl,sqN _⟩
         | with_reducible exact hop _ h1 | with_reducible exact hle _ h1
     simp only [Act.put,sqA,sqB,sqC])
  refine wpOrd_done fun w9 h9 => ?_
  replace hS := Now.below hS h9
  clear hop hle hcell h9
  by_cases hz : se = 0
  case neg =>
    have hans := HANS.out
    rw [if_neg hz] at hans
    have x1 := congrArg (·.1) hans
    have x2 := congrArg (·.2.1) hans
    have x3 := congrArg (·.2.2.1) hans
    have x4 := congrArg (·.2.2.2) hans
    dsimp only at x1 x2 x3 x4
    subst x1 x2 x3 x4
    clear hans HANS
    have hze : (se == 0) = false := beq_eq_false_iff_ne.2 hz
    go_wp2_with (go_at_call 63;(refine (hseal _ _ hS).mono ?_);rintro e w9 ⟨rfl,r',A1,k1,A2,k2,A3,k3,hR2,hS⟩;clear hseal;have hrb := Now.blk (pre:=[_,_,_,_,_]) hS;have o0 : w9.cell? ⟨w.heap.size + 1,0,none⟩ = some (Value.int .i64 0) := hrb.cell 0;have o1 : w9.cell? ⟨w.heap.size + 1,1,none⟩ = some (Value.int .i64 0) := hrb.cell 1;have fo := fun k => hrb.frozen k;have hlr := hrb.lt;have hne5 := Nat.ne_of_lt hrb.lt;clear hrb;replace hS := Lib.hid (Now.set_ (pre:=[_,_,_,_,_]) (Now.set_ (pre:=[_,_,_,_,_]) hS 0 (.int .i64 0)) 1 (.int .i64 0)))
    exact loc_end (pre:=[_,_,_,_,_]) rfl hS.out rfl rfl rfl (fun h => ⟨rfl,r',A1,k1,A2,k2,A3,k3,hR2,Now.drop (pre:=[_,_,_,_,_]) h⟩)
  subst hz
  go_upto_region 11 with (go_at_call 63;(refine (hseal _ _ hS).mono ?_);rintro e w9 ⟨rfl,r',A1,k1,A2,k2,A3,k3,hR2,hS⟩;clear hseal)
  have hans := HANS.out
  simp only [if_true] at hans
  clear HANS
  obtain ⟨T2,lsn2,gen2,d2⟩ := s2
  rw [show LSt.put ⟨T2,lsn2,gen2,d2⟩ epoch ⟨r0,r1,r2,r3,r4,r5,r6⟩ = LSt.put ⟨T2,lsn2,gen2,d2⟩ epoch ⟨lsnB,epoch,r2,r3,r4,r5,r6⟩ from rfl] at hans
  have hl2 : 1 ≤ lsn2 ∧ lsn2 < 1000000 := hok.lsn
  have hlast2 : T2.last = 0 := by simpa using hsl0
  have hT2 : T2.Ok := hok.t
  have hlast3 : T2.last < T2.slots := by have := hT2.slots;omega
  have hl3 : 0 ≤ lsn2 ∧ lsn2 + 1 < 18446744073709551616 := by omega
  have hrf2 : r'.Fits := hR2.fits (Nat.le_trans hok.pend (by decide))
  have hFn : (⟨lsn2,epoch,r2,r3,r4,r5,r6⟩ : Rec).Fits := ⟨by show 0 ≤ lsn2 ∧ lsn2 < _;omega,HFO.out.epoch,HFO.out.kind,HFO.out.ver,HFO.out.dl,HFO.out.id,HFO.out.val⟩
  have hRn : (⟨lsn2,epoch,r2,r3,r4,r5,r6⟩ : Rec).right = true := right_any ⟨0,0,r2,r3,r4,r5,r6⟩ lsn lsn2 epoch epoch HRO.out (by omega) (by omega)
  replace hS : Now S0 w0 w9 (rlogParts g gd T2 A1 k1 A2 k2 A3 k3 lsn2 epoch gen2 r' ++ (Thing.cells (w.heap.size + 1) 90 #[.int .i64 0, .int .i64 0] :: Thing.cells w.heap.size 118 #[.int .u64 lsnB, .int .u32 epoch, .int .i64 r2, .int .u64 r3, .int .u64 r4, .string r5, .string r6] :: L)) := by rw [← HLB.out];exact hS
  have HANS := Lib.hid hans
  clear hans hsl0 hok hl2 hlast2 HFO HRO HLB HLT hRl hlsn0 hT
  have hw0 := rwrite_any g gd T2 hT2 A1 k1 A2 k2 A3 k3 lsn2 epoch gen2 hl3 r' hrf2 ⟨lsnB,epoch,r2,r3,r4,r5,r6⟩ hFn hRn (L := Thing.cells (w.heap.size + 1) 90 #[.int .i64 0, .int .i64 0] :: Thing.cells w.heap.size 118 #[.int .u64 lsnB, .int .u32 epoch, .int .i64 r2, .int .u64 r3, .int .u64 r4, .string r5, .string r6] :: L) hS
  obtain ⟨we,hwe⟩ : ∃ we,r'.writeE T2.at_ (Rec.sector ⟨lsn2,epoch,r2,r3,r4,r5,r6⟩) = we := ⟨_,rfl⟩
  have hrw := hR2.write T2.at_ (Rec.sector ⟨lsn2,epoch,r2,r3,r4,r5,r6⟩)
  have hbx := Now.blk (pre:=[_,_,_,_,_,_]) hS
  have q0 : w9.cell? ⟨w.heap.size,0,none⟩ = some (Value.int .u64 lsnB) := hbx.cell 0
  have q1 : w9.cell? ⟨w.heap.size,1,none⟩ = some (Value.int .u32 epoch) := hbx.cell 1
  have q2 : w9.cell? ⟨w.heap.size,2,none⟩ = some (Value.int .i64 r2) := hbx.cell 2
  have q3 : w9.cell? ⟨w.heap.size,3,none⟩ = some (Value.int .u64 r3) := hbx.cell 3
  have q4 : w9.cell? ⟨w.heap.size,4,none⟩ = some (Value.int .u64 r4) := hbx.cell 4
  have q5 : w9.cell? ⟨w.heap.size,5,none⟩ = some (Value.string r5) := hbx.cell 5
  have q6 : w9.cell? ⟨w.heap.size,6,none⟩ = some (Value.string r6) := hbx.cell 6
  clear hbx
  have hput : LSt.put ⟨T2,lsn2,gen2,d2⟩ epoch ⟨lsnB,epoch,r2,r3,r4,r5,r6⟩ = if we = 0 then (0,T2.open_,T2.last,⟨T2.count,lsn2 + 1,gen2,d2.writeS T2.at_ (Rec.sector ⟨lsn2,epoch,r2,r3,r4,r5,r6⟩)⟩) else (we,0,0,⟨T2,lsn2,gen2,d2⟩) := by
    unfold LSt.put LSt.recOf
    dsimp only
    rw [hrw.1,hwe]
  have hans := HANS.out
  rw [hput] at hans
  clear HANS
  by_cases z1 : we = 0
  case neg =>
    rw [if_neg z1] at hans
    have x1 := congrArg (·.1) hans
    have x2 := congrArg (·.2.1) hans
    have x3 := congrArg (·.2.2.1) hans
    have x4 := congrArg (·.2.2.2) hans
    dsimp only at x1 x2 x3 x4
    subst x1 x2 x3 x4
    clear hans
    have hw1 := hw0.mono (R' := fun e w' => e = .returned (.tuple #[.agg #[.int .i64 0, .int .i64 0], .int .i64 we]) ∧ Now S0 w0 w' (rlogParts g gd T2 A1 k1 A2 k2 A3 k3 lsn2 epoch gen2 r' ++ (Thing.cells (w.heap.size + 1) 90 #[.int .i64 0, .int .i64 0] :: Thing.cells w.heap.size 118 #[.int .u64 lsnB, .int .u32 epoch, .int .i64 r2, .int .u64 r3, .int .u64 r4, .string r5, .string r6] :: L))) (fun e w' h => h.2 we z1 hwe)
    have hne : (we == 0) = false := beq_eq_false_iff_ne.2 z1
    clear hw0 hwe hput hS hrw
    go_wp2_with (go_at_call 123;(refine hw1.mono ?_);rintro e w10 ⟨rfl,hS⟩;clear hw1 q0 q1 q2 q3 q4 q5 q6;have hrb := Now.blk (pre:=[_,_,_,_,_]) hS;have o0 : w10.cell? ⟨w.heap.size + 1,0,none⟩ = some (Value.int .i64 0) := hrb.cell 0;have o1 : w10.cell? ⟨w.heap.size + 1,1,none⟩ = some (Value.int .i64 0) := hrb.cell 1;have fo := fun k => hrb.frozen k;have hlr := hrb.lt;have hne5 := Nat.ne_of_lt hrb.lt;clear hrb;replace hS := Lib.hid (Now.alloc (Now.set_ (pre:=[_,_,_,_,_]) (Now.set_ (pre:=[_,_,_,_,_]) hS 0 (.int .i64 0)) 1 (.int .i64 0)) (.cells #[.int .i64 0, .int .i64 0] 90)))
    exact loc_end (pre:=[_,_,_,_,_]) rfl hS.out rfl rfl rfl (fun h => ⟨rfl,r',A1,k1,A2,k2,A3,k3,hR2,Now.drop (pre:=[_,_,_,_,_]) h⟩)
  subst z1
  rw [if_pos rfl] at hans
  have x1 := congrArg (·.1) hans
  have x2 := congrArg (·.2.1) hans
  have x3 := congrArg (·.2.2.1) hans
  have x4 := congrArg (·.2.2.2) hans
  dsimp only at x1 x2 x3 x4
  subst x1 x2 x3 x4
  clear hans
  have hw1 := hw0.mono (R' := fun e w' => e = .returned (.tuple #[.agg #[.int .i64 T2.open_, .int .i64 (T2.len T2.open_)], .int .i64 0]) ∧ Now S0 w0 w' (rlogParts g gd T2 A1 k1 A2 k2 A3 k3 (lsn2 + 1) epoch gen2 (r'.writeS T2.at_ (Rec.sector ⟨lsn2,epoch,r2,r3,r4,r5,r6⟩)) ++ (Thing.cells (w.heap.size + 1) 90 #[.int .i64 0, .int .i64 0] :: Thing.cells w.heap.size 118 #[.int .u64 lsnB, .int .u32 epoch, .int .i64 r2, .int .u64 r3, .int .u64 r4, .string r5, .string r6] :: L))) (fun e w' h => h.1 hwe)
  rw [T2.len_open hT2] at hw1
  have hcnt := fun v h => RCount_ok T2 hT2 A1 k1 A2 k2 A3 k3 v h hlast3
  have HR2 := Lib.hid hrw.2
  clear hw0 hwe hput hS hrw
  go_wp2_with (first
    | (go_at_call 123;(refine hw1.mono ?_);rintro e w10 ⟨rfl,hS⟩;clear hw1 q0 q1 q2 q3 q4 q5 q6;have hg10 := (Now.blk (pre:=[]) hS).lt;have hr10 := (Now.blk (pre:=[_,_,_,_,_]) hS).lt;have hng10 := Nat.ne_of_lt hg10;have hnr10 := Nat.ne_of_lt hr10;have hnr11 := Ne.symm hnr10;have hng11 := Ne.symm hng10;have hne8 := Ne.symm hne2;replace hS := Now.pushCells hS 90 #[.int .i64 T2.open_, .int .i64 T2.last];have hlog := Now.blk (pre:=[_]) hS;have c1 : _ = some (Value.int .i64 T2.segs) := hlog.cell 1;have c2 : _ = some (Value.int .i64 T2.slots) := hlog.cell 2;have c3 : _ = some (Value.slice A1 T2.order.length k1) := hlog.cell 3;have c4 : _ = some (Value.slice A2 T2.lens.length k2) := hlog.cell 4;have c5 : _ = some (Value.slice A3 T2.firsts.length k3) := hlog.cell 5;clear hlog)
    | (go_at_call 85;(refine (hcnt _ (tabIn_of (pre:=[_,_]) hS)).mono ?_);rintro e w11 ⟨B1,l1,B2,l2,B3,l3,rfl,hO⟩;replace hS := Now.pushAll hS hO;clear hcnt hO c1 c2 c3 c4 c5;have hlog := Now.blk (pre:=[_,_,_,_]) hS;have c1 : w11.cell? ⟨g,1,none⟩ = some (Value.int .i64 T2.segs) := hlog.cell 1;have c2 : w11.cell? ⟨g,2,none⟩ = some (Value.int .i64 T2.slots) := hlog.cell 2;have c3 : w11.cell? ⟨g,3,none⟩ = some (Value.slice A1 T2.order.length k1) := hlog.cell 3;have c4 : w11.cell? ⟨g,4,none⟩ = some (Value.slice A2 T2.lens.length k2) := hlog.cell 4;have c5 : w11.cell? ⟨g,5,none⟩ = some (Value.slice A3 T2.firsts.length k3) := hlog.cell 5;have fl := fun k => hlog.frozen k;have hlt := hlog.lt;have hne3 := Nat.ne_of_lt hlt;have hl7 := Now.blk (pre:=[_,_,_]) hS;have e0 : w11.cell? ⟨w10.heap.size,0,none⟩ = some (Value.int .i64 T2.open_) := hl7.cell 0;have e1 : w11.cell? ⟨w10.heap.size,1,none⟩ = some (Value.int .i64 T2.last) := hl7.cell 1;have hlt7 := hl7.lt;have hne4 := Nat.ne_of_lt hl7.lt;have hrb := Now.blk (pre:=[_,_,_,_,_,_,_,_,_]) hS;have o0 : w11.cell? ⟨w.heap.size + 1,0,none⟩ = some (Value.int .i64 0) := hrb.cell 0;have o1 : w11.cell? ⟨w.heap.size + 1,1,none⟩ = some (Value.int .i64 0) := hrb.cell 1;have fo := fun k => hrb.frozen k;have hltr := hrb.lt;have hne5 := Nat.ne_of_lt hrb.lt;clear hlog hl7 hrb;replace hS := Now.set_ (pre:=[_,_,_,_,_,_,_,_,_]) (Now.set_ (pre:=[_,_,_,_,_,_,_,_,_]) (Now.set_ (pre:=[_,_,_,_]) (Now.set_ (pre:=[_,_,_,_]) (Now.set_ (pre:=[_,_,_,_]) (Now.set_ (pre:=[_,_,_,_]) (Now.set_ (pre:=[_,_,_,_]) hS 1 (.int .i64 T2.count.segs)) 2 (.int .i64 T2.count.slots)) 3 (.slice B1 T2.count.order.length l1)) 4 (.slice B2 T2.count.lens.length l2)) 5 (.slice B3 T2.count.firsts.length l3)) 0 (.int .i64 T2.open_)) 1 (.int .i64 T2.last);replace hS := Lib.hid (Now.alloc hS (.cells #[.int .i64 T2.count.segs, .int .i64 T2.count.slots, .slice B1 T2.count.order.length l1, .slice B2 T2.count.lens.length l2, .slice B3 T2.count.firsts.length l3] 71))))
  exact loc_end (pre:=[_,_,_,_,_,_,_,_,_]) rfl hS.out rfl rfl rfl (fun h => ⟨rfl,_,B1,l1,B2,l2,B3,l3,HR2.out,Now.front (pre:=[_,_,_]) (Now.drop (pre:=[_,_,_,_,_]) (Now.drop (pre:=[_,_,_,_]) (Now.drop (pre:=[_,_,_,_]) (Now.drop (pre:=[_,_,_,_]) (Now.drop (pre:=[_,_,_]) h)))))⟩)
theorem RAppend_any (s : LSt) (hs : s.Ok) (hok : (s.seal epoch).2.Ok) (r : RDsk) (hRl : Rel s.d r) (g gd : Nat) (he : 0 ≤ epoch ∧ epoch < 4294967296) (rc : Rec) (hF : (s.recOf epoch rc).Fits) (AO : Option Addr) (cO : Nat) (AL : Option Addr) (cL : Nat) (AF : Option Addr) (cF : Nat)
    {S0 : Nat → Prop} {w0 w : World} {L : List Thing} (hS : Now S0 w0 w (rlogParts g gd s.T AO cO AL cL AF cF s.lsn epoch s.gen r ++ L)) :
    Calls Tryz.prog 67 #[.pointer (some ⟨g,0,none⟩),rc.value] w fun e w' => e = .returned (.tuple #[.agg #[.int .i64 (s.append epoch rc).2.1, .int .i64 (s.append epoch rc).2.2.1], .int .i64 (s.append epoch rc).1]) ∧ GotR S0 w0 w' (s.append epoch rc).2.2.2 g gd epoch L := by
  unfold LSt.append
  by_cases h1 : rc.kind = 3 ∨ (s.recOf epoch rc).right = false
  · rw [if_pos h1]
    exact RApp_form s hs r hRl g gd epoch rc hF h1 AO cO AL cL AF cF hS
  rw [if_neg h1]
  have hk : rc.kind ≠ 3 := fun h => h1 (.inl h)
  have hR : (s.recOf epoch rc).right = true := by
    cases h : (s.recOf epoch rc).right with
    | true => rfl
    | false => exact absurd (.inr h) h1
  by_cases h2 : s.T.room = 0
  · rw [if_pos h2]
    exact RApp_full s hs r hRl g gd epoch rc hF hk hR h2 AO cO AL cL AF cF hS
  rw [if_neg h2]
  by_cases h3 : s.T.last = s.T.slots
  · rw [if_pos h3]
    exact RApp_roll s hs hok r hRl g gd he rc hF hk hR h2 h3 _ _ _ _ rfl AO cO AL cL AF cF hS
  · rw [if_neg h3]
    exact RApp_put s hs r hRl g gd epoch rc hF hk hR h2 h3 AO cO AL cL AF cF hS
end
end Go.Proofs.YtidacaihmjdmkaaGreat
namespace Go.Proofs.YtidacaihmjdmkaaGreat
open Go.RowKit
attribute [local go_sem high] run_mx run_mn
theorem decR_size {s : ByteArray} (hs : s.size ≠ 128) : decR s = none := by unfold decR;rw [if_neg (fun h => hs h.1)]
theorem decR_some {s : ByteArray} {r : Rec} (h : decR s = some r) : s.size = 128 ∧ r.right = true ∧ r.sector = s ∧ r.Fits := by
  unfold decR at h
  split at h
  · rename_i hc
    injection h with h
    subst h
    exact ⟨hc.1,hc.2.1,hc.2.2,cand_fits s hc.1⟩
  · cases h
theorem set7 {w v : World} {B b : Nat} {t : TypeId} {x0 x1 x2 x3 x4 x5 x6 : Value} (h : Blk v b t #[x0,x1,x2,x3,x4,x5,x6]) (hB : Below B w v) (hb : B ≤ b) (y0 y1 y2 y3 y4 y5 y6 : Value) :
    Blk (((((((v.setCell ⟨b,0,none⟩ y0).setCell ⟨b,1,none⟩ y1).setCell ⟨b,2,none⟩ y2).setCell ⟨b,3,none⟩ y3).setCell ⟨b,4,none⟩ y4).setCell ⟨b,5,none⟩ y5).setCell ⟨b,6,none⟩ y6) b t #[y0,y1,y2,y3,y4,y5,y6] ∧
    Below B w (((((((v.setCell ⟨b,0,none⟩ y0).setCell ⟨b,1,none⟩ y1).setCell ⟨b,2,none⟩ y2).setCell ⟨b,3,none⟩ y3).setCell ⟨b,4,none⟩ y4).setCell ⟨b,5,none⟩ y5).setCell ⟨b,6,none⟩ y6) :=
  ⟨by
    have h7 := ((((((h.set_ 0 y0).set_ 1 y1).set_ 2 y2).set_ 3 y3).set_ 4 y4).set_ 5 y5).set_ 6 y6
    simp only [List.setIfInBounds_toArray,List.set_cons_zero,List.set_cons_succ] at h7
    exact h7,
    (((((((hB.setCell (p := ⟨b,0,none⟩) hb y0).setCell (p := ⟨b,1,none⟩) hb y1).setCell (p := ⟨b,2,none⟩) hb y2).setCell (p := ⟨b,3,none⟩) hb y3).setCell (p := ⟨b,4,none⟩) hb y4).setCell (p := ⟨b,5,none⟩) hb y5).setCell (p := ⟨b,6,none⟩) hb y6)⟩
theorem decR_lens {s : ByteArray} {r : Rec} (h : decR s = some r) : fld s 13 1 = r.id.size ∧ fld s 14 1 = r.val.size ∧ r.id.size ≤ 16 ∧ r.val.size ≤ 64 := by
  obtain ⟨_,hr,hs,hf⟩ := decR_some h
  subst hs
  obtain ⟨h1,h2,_,_⟩ := Rec.sizes hr
  exact ⟨sec_idn r hr,sec_valn r hr,h1,h2⟩
theorem decR_big {s : ByteArray} (h : 112 < 31 + fld s 13 1 + fld s 14 1) : decR s = none := by
  cases hd : decR s with
  | none => rfl
  | some r => obtain ⟨h1,h2,h3,h4⟩ := decR_lens hd;omega
end Go.Proofs.YtidacaihmjdmkaaGreat
namespace Go.Proofs.YtidacaihmjdmkaaGreat
open Go.RowKit
attribute [local go_sem high] run_mx run_mn
theorem REncode_any (r : Rec) (hr : r.Fits) (w : World) : Calls Tryz.prog 163 #[r.value] w fun e w' => e = .returned (.tuple #[.string (if r.right = true then r.sector else ⟨#[]⟩), .int .i64 (if r.right = true then 0 else 5)]) ∧ Below w.heap.size w w' := by
  cases h : r.right with
  | true => rw [if_pos rfl,if_pos rfl];exact REncode_yes r hr h w
  | false => rw [if_neg (by simp),if_neg (by simp)];exact REncode_no r hr h w
theorem RGetN (s : ByteArray) (hs : s.size ≤ 8) (u : World) : Calls Tryz.prog 166 #[.string s] u fun e v => e = .returned (.int .u64 (leN s.data.toList)) ∧ Newer u v :=
  (RGet_any s hs u).mono fun _ _ ⟨he,h⟩ => ⟨he,h ▸ Newer.refl u⟩
theorem fld_extract (s : ByteArray) (p m : Nat) : leN (s.extract p (p + m)).data.toList = fld s p m := by
  unfold fld
  rw [extract_list,Nat.add_sub_cancel_left]
theorem GetF (s : ByteArray) (hs : s.size = 128) (p q : Nat) (h : q ≤ p + 8) (hp : p ≤ q) (u : World) : Calls Tryz.prog 166 #[.string (s.extract p q)] u fun e v => e = .returned (.int .u64 (fld s p (q - p))) ∧ Newer u v := by
  have := RGetN (s.extract p q) (by rw [ByteArray.size_extract];omega) u
  rw [show q = p + (q - p) by omega,fld_extract] at this
  rw [show q = p + (q - p) by omega,Nat.add_sub_cancel_left];exact this
set_option maxRecDepth 100000 in
set_option maxHeartbeats 4000000 in
theorem RDecode_no (s : ByteArray) (hs : s.size ≠ 128) (w : World) : Calls Tryz.prog 129 #[.string s] w fun e w' => e = .returned (.tuple #[noRec.value, .int .i64 5]) ∧ Below w.heap.size w w' := by
  have hs2 : ((s.size : Int) == 128) = false := by simp;omega
  have hs3 : ((s.size : Int) != 128) = true := by simp;omega
  unfold Rec.value noRec
  go_enter Tryz.func129,Tryz.ntmps129
  go_wp2_with fail
  have hb := Blk.new w 118 #[.int .u64 0, .int .u32 0, .int .i64 0, .int .u64 0, .int .u64 0, .string ⟨#[]⟩, .string ⟨#[]⟩]
  have hld := run_loadVar_row (P := Tryz.prog) _ _ _ 118 _ (0,0) _ hb Tryz.underlying118 rfl (by kernel_rfl)
  (try simp only [Exit.inBlock,Exit.then])
  refine bodyPost_ret (v := .tuple #[.agg #[.int .u64 0, .int .u32 0, .int .i64 0, .int .u64 0, .int .u64 0, .string ⟨#[]⟩, .string ⟨#[]⟩], .int .i64 5]) ?_ rfl ⟨rfl,(Below.refl _ _).alloc (Nat.le_refl _) _⟩
  rw [results_cell_tmp rfl]
  simp [asAddr,Result.andThen,hld]
theorem wrap_small {a : Int} {m : Nat} (h : a = (m : Int)) (hm : m < 1000000) : wrap64 a = (m : Int) := by subst h;unfold wrap64;omega
theorem two_sums (i x : Nat) (hi : i < 256) (hx : x < 256) : ∃ m1 m2 : Nat,31 + i = m1 ∧ m1 + x = m2 ∧ wrap64 (31 + (i : Int)) = (m1 : Int) ∧ wrap64 ((m1 : Int) + (x : Int)) = (m2 : Int) :=
  ⟨31 + i,31 + i + x,rfl,rfl,wrap_small (by omega) (by omega),wrap_small (by omega) (by omega)⟩
theorem fld_byte (s : ByteArray) (p : Nat) (h : p < s.size) : s[p].toNat = fld s p 1 := by
  have hl : p < s.data.toList.length := by rw [size_len];exact h
  unfold fld
  rw [List.drop_eq_getElem_cons hl]
  show _ = (s.data.toList[p]).toNat + 256 * 0
  rw [Nat.mul_zero,Nat.add_zero,Array.getElem_toList];rfl
theorem decV_no (s : ByteArray) (h : ¬ (s.size = 128 ∧ (cand s).right = true ∧ (cand s).sector = s)) : decV s = .tuple #[.agg #[.int .u64 0, .int .u32 0, .int .i64 0, .int .u64 0, .int .u64 0, .string ⟨#[]⟩, .string ⟨#[]⟩], .int .i64 5] := by
  unfold decV decR
  rw [if_neg h]
  rfl
theorem cand_small {s : ByteArray} (hs : s.size = 128) {m1 m2 : Nat} (h1 : 31 + fld s 13 1 = m1) (h2 : m1 + fld s 14 1 = m2) (h : (m2 : Int) ≤ 112) : cand s = ⟨fld s 0 8,fld s 8 4,fld s 12 1,fld s 15 8,fld s 23 8,s.extract 31 m1,s.extract m1 m2⟩ := by
  have e1 : min (fld s 13 1) 97 = fld s 13 1 := by omega
  have e2 : min (fld s 14 1) (97 - fld s 13 1) = fld s 14 1 := by omega
  unfold cand
  simp only [e1,e2,h1,h2]
theorem sums_in {i x m1 m2 : Nat} (h1 : 31 + i = m1) (h2 : m1 + x = m2) (h : ¬ 112 < m2) : (31 : Int) ≤ (m1 : Int) ∧ (m1 : Int) ≤ (m2 : Int) ∧ (m1 : Int) ≤ 128 ∧ (m2 : Int) ≤ 128 ∧ (0 : Int) ≤ (m1 : Int) := by omega
theorem decV_big (s : ByteArray) {m1 m2 : Nat} (hm1 : 31 + fld s 13 1 = m1) (hm2 : m1 + fld s 14 1 = m2) (h : 112 < m2) : decV s = .tuple #[.agg #[.int .u64 0, .int .u32 0, .int .i64 0, .int .u64 0, .int .u64 0, .string ⟨#[]⟩, .string ⟨#[]⟩], .int .i64 5] := by
  unfold decV
  rw [decR_big (by rw [hm1,hm2];exact h)]
  rfl
theorem Rblk7_ret {v : World} {b : Nat} {x0 x1 x2 x3 x4 x5 x6 : Value} (h : Blk v b 118 #[x0,x1,x2,x3,x4,x5,x6]) :
    (loadVar 118 ⟨b,0,none⟩).run Tryz.prog v = .ok (.agg #[x0,x1,x2,x3,x4,x5,x6]) v :=
  run_loadVar_row (P := Tryz.prog) _ _ _ 118 _ (0,0) _ h Tryz.underlying118 rfl (by kernel_rfl)
set_option maxRecDepth 100000 in
set_option maxHeartbeats 4000000 in
theorem RDecode_128 (s : ByteArray) (hs : s.size = 128) (w : World) : Calls Tryz.prog 129 #[.string s] w fun e w' => e = .returned (decV s) ∧ Below w.heap.size w w' := by
  have hs2 : (s.size : Int) = 128 := by omega
  have hb := Blk.new w 118 #[.int .u64 0, .int .u32 0, .int .i64 0, .int .u64 0, .int .u64 0, .string ⟨#[]⟩, .string ⟨#[]⟩]
  have b1 : fld s 8 4 < 4294967296 := fld_lt s 8 4
  have b2 : fld s 12 1 < 256 := fld_lt s 12 1
  have b3 : fld s 13 1 < 256 := fld_lt s 13 1
  have b4 : fld s 14 1 < 256 := fld_lt s 14 1
  have w1 : IntKind.u32.wrap (fld s 8 4 : Int) = fld s 8 4 := by rw [IntKind.wrap_u32];omega
  have w2 : wrap64 (fld s 12 1 : Int) = fld s 12 1 := by unfold wrap64;omega
  have w3 : wrap64 (fld s 13 1 : Int) = fld s 13 1 := by unfold wrap64;omega
  have w4 : wrap64 (fld s 14 1 : Int) = fld s 14 1 := by unfold wrap64;omega
  have l12 : 12 < s.size := by omega
  have l13 : 13 < s.size := by omega
  have l14 : 14 < s.size := by omega
  obtain ⟨m1,m2,hm1,hm2,w5,w6⟩ := two_sums _ _ b3 b4
  clear b1 b2 b3 b4
  by_cases hbig : 112 < m2
  · have hans := decV_big s hm1 hm2 hbig
    have hbi : (112 : Int) < (m2 : Int) := Int.ofNat_lt.2 hbig
    clear hm1 hm2 hbig
    have x12 := fld_byte s 12 l12
    have x13 := fld_byte s 13 l13
    have x14 := fld_byte s 14 l14
    go_enter Tryz.func129,Tryz.ntmps129
    go_wp2_with fail
    refine wp_region_ord Newer.grow [(0,true),(1,true),(2,true),(3,true),(4,true),(5,true),(6,true),(7,true)] [] (by kernel_rfl) (by kernel_rfl) rfl (by kernel_rfl) (by intro _ _ d _ _ h;cases d <;> exact h) ?_
    iterate 8
      (apply wpOrd_take
       · exact rfl
       · intro w1 h1
         (skip)
         go_simp
         first
           | with_reducible exact ⟨rfl,sqN _⟩
       simp only [Act.put,sqA,sqB,sqC])
    refine wpOrd_done fun v4 h4 => ?_
    have hb1 := hb.below h4.undrew hb.lt
    have hB2 : Below w.heap.size w v4 := ((Below.refl _ w).alloc (Nat.le_refl _) _).trans (h4.undrew.below (by simp))
    obtain ⟨p0,p1,p2,p3,p4,p5,p6⟩ := keep7 hb1 (Below.refl _ _)
    have pf := fun k => hb1.frozen k
    clear hb
    go_wp2_with fail
    obtain ⟨hbb,hBf⟩ := set7 hb1 hB2 (Nat.le_refl _) (.int .u64 0) (.int .u32 0) (.int .i64 0) (.int .u64 0) (.int .u64 0) (.string ⟨#[]⟩) (.string ⟨#[]⟩)
    have hld := Rblk7_ret hbb
    refine bodyPost_ret (v := decV s) ?_ rfl ⟨rfl,hBf⟩
    rw [results_cell_tmp rfl,hans]
    simp [asAddr,Result.andThen,hld]
  · have hbi : ¬ (112 : Int) < (m2 : Int) := fun h => hbig (Int.ofNat_lt.1 h)
    obtain ⟨k1,k2,k3,k4,k5⟩ := sums_in hm1 hm2 hbig
    have g1 := GetF s hs 0 8 (by omega) (by omega)
    have g2 := GetF s hs 8 12 (by omega) (by omega)
    have g3 := GetF s hs 15 23 (by omega) (by omega)
    have g4 := GetF s hs 23 31 (by omega) (by omega)
    rw [show 8 - 0 = 8 from rfl] at g1
    rw [show 12 - 8 = 4 from rfl] at g2
    rw [show 23 - 15 = 8 from rfl] at g3
    rw [show 31 - 23 = 8 from rfl] at g4
    have wr : ∀ n,IntKind.i64.wrap n = wrap64 n := fun n => IntWalk.i64_left n
    have HM1 := Lib.hid hm1
    have HM2 := Lib.hid hm2
    clear hm1 hm2 hbig
    have x12 := fld_byte s 12 l12
    have x13 := fld_byte s 13 l13
    have x14 := fld_byte s 14 l14
    go_enter Tryz.func129,Tryz.ntmps129
    go_wp2_with fail
    refine wp_region_ord Newer.grow [(0,true),(1,true),(2,true),(3,true),(4,true),(5,true),(6,true),(7,true)] [] (by kernel_rfl) (by kernel_rfl) rfl (by kernel_rfl) (by intro _ _ d _ _ h;cases d <;> exact h) ?_
    iterate 8
      (apply wpOrd_take
       · exact rfl
       · intro w1 h1
         (skip)
         go_simp
         first
           | with_reducible exact ⟨rfl,sqN _⟩
       simp only [Act.put,sqA,sqB,sqC])
    refine wpOrd_done fun v4 h4 => ?_
    have hb1 := hb.below h4.undrew hb.lt
    have hB2 : Below w.heap.size w v4 := ((Below.refl _ w).alloc (Nat.le_refl _) _).trans (h4.undrew.below (by simp))
    clear hb
    go_wp2_with fail
    refine wp_region_ord Newer.grow [(0,true),(1,true),(2,true),(3,true),(4,true),(5,true),(6,true),(7,true),(8,true),(9,true),(10,true),(11,true),(12,true),(13,true),(14,true),(15,true),(16,true),(17,true),(18,true),(19,true),(20,true),(21,true),(22,true),(23,true),(24,true),(25,true),(26,true),(27,true),(28,true),(29,false),(30,false)] [30] (by kernel_rfl) (by kernel_rfl) rfl (by kernel_rfl) (by intro _ _ d _ _ h;cases d <;> exact h) ?_
    iterate 29
      (apply wpOrd_take
       · exact rfl
       · intro w1 h1
         (skip)
         go_simp
         first
           | with_reducible exact ⟨rfl,sqN _⟩
           | with_reducible exact g1 _ | with_reducible exact g2 _ | with_reducible exact g3 _ | with_reducible exact g4 _
       simp only [Act.put,sqA,sqB,sqC])
    refine wpOrd_do rfl ?_
    intro v5 h5 K hK
    go_simp
    refine hK _ _ ((Newer.refl _).alloc _) ?_
    clear hK K
    refine wpOrd_last rfl (by decide) ?_
    intro v6 h6 K hK
    have hc5 := (Blk.new v5 118 #[.int .u64 0, .int .u32 0, .int .i64 0, .int .u64 0, .int .u64 0, .string ⟨#[]⟩, .string ⟨#[]⟩]).below h6 (by simp)
    obtain ⟨q0,q1,q2,q3,q4,q5,q6⟩ := keep7 hc5 (Below.refl _ _)
    have qf := fun k => hc5.frozen k
    go_simp
    refine hK _ _ ?_
    clear hK K
    refine wpOrd_done fun v7 h7 => ?_
    obtain ⟨hc6,hB6⟩ := set7 hc5 (Below.refl v5.heap.size v6) (Nat.le_refl _) (.int .u64 (fld s 0 8)) (.int .u32 (fld s 8 4)) (.int .i64 (fld s 12 1)) (.int .u64 (fld s 15 8)) (.int .u64 (fld s 23 8)) (.string (s.extract 31 m1)) (.string (s.extract m1 m2))
    have hc7 := hc6.below h7 hc6.lt
    have h56 : Below v5.heap.size v5 v6 := ((Below.refl _ v5).alloc (Nat.le_refl _) _).trans (h6.below (by simp))
    have h57 : Newer v4 v7 := Newer.trans h5.undrew (h56.trans (hB6.trans (Newer.below h7 (Nat.le_of_lt hc6.lt))))
    have hres7 := hb1.below h57 hb1.lt
    have hB7 := hB2.trans (h57.below (Nat.le_of_lt hb1.lt))
    clear hc6 hB6 h56 h57 h7 h6 hc5 q0 q1 q2 q3 q4 q5 q6 qf h5 h4 hb1 hB2 g1 g2 g3 g4
    have hcand := cand_small hs HM1.out HM2.out hbi
    obtain ⟨q0,q1,q2,q3,q4,q5,q6⟩ := keep7 hc7 (Below.refl _ _)
    have hE := fun u => REncode_any (cand s) (cand_fits s hs) u
    have hV : (cand s).value = .agg #[.int .u64 (fld s 0 8), .int .u32 (fld s 8 4), .int .i64 (fld s 12 1), .int .u64 (fld s 15 8), .int .u64 (fld s 23 8), .string (s.extract 31 m1), .string (s.extract m1 m2)] := by rw [hcand];rfl
    rw [hV] at hE
    by_cases hr : (cand s).right = true
    · by_cases hsec : (cand s).sector = s
      · have hans : decV s = .tuple #[.agg #[.int .u64 (fld s 0 8), .int .u32 (fld s 8 4), .int .i64 (fld s 12 1), .int .u64 (fld s 15 8), .int .u64 (fld s 23 8), .string (s.extract 31 m1), .string (s.extract m1 m2)], .int .i64 0] := by
          unfold decV decR
          rw [if_pos ⟨hs,hr,hsec⟩, ← hV]
        simp only [hr,if_true,hsec] at hE
        clear hV w1 w2 w3 w4 w5 w6 hr hsec hcand x12 x13 x14 hbi k1 k2 k3 k4 k5
        go_wp2_with (first
          | (go_at_call 163;with_reducible refine (hE _).mono ?_;rintro e v13 ⟨rfl,hB13⟩;have hR14 := hc7.below hB13 hc7.lt;have hS13 := hres7.below hB13 hres7.lt;have hBB := hB7.trans (hB13.mono (Nat.le_of_lt hres7.lt));obtain ⟨q0,q1,q2,q3,q4,q5,q6⟩ := keep7 hR14 (Below.refl _ _);obtain ⟨p0,p1,p2,p3,p4,p5,p6⟩ := keep7 hS13 (Below.refl _ _);have pf := fun k => hS13.frozen k;clear hc7 hres7 hB7 hE hB13))
        obtain ⟨hbb,hBf⟩ := set7 hS13 hBB (Nat.le_refl _) (.int .u64 (fld s 0 8)) (.int .u32 (fld s 8 4)) (.int .i64 (fld s 12 1)) (.int .u64 (fld s 15 8)) (.int .u64 (fld s 23 8)) (.string (s.extract 31 m1)) (.string (s.extract m1 m2))
        have hld := Rblk7_ret hbb
        refine bodyPost_ret (v := decV s) ?_ rfl ⟨rfl,hBf⟩
        rw [results_cell_tmp rfl,hans]
        simp [asAddr,Result.andThen,hld]
      · have hans := decV_no s (fun h => hsec h.2.2)
        have hs3 : ((cand s).sector.toList == s.toList) = false := bytes_ne hsec
        have hs4 : (!((cand s).sector.toList == s.toList)) = true := by rw [hs3];rfl
        simp only [hr,if_true] at hE
        clear hV w1 w2 w3 w4 w5 w6 hr hsec hcand x12 x13 x14 hbi k1 k2 k3 k4 k5
        go_wp2_with (first
          | (go_at_call 163;with_reducible refine (hE _).mono ?_;rintro e v13 ⟨rfl,hB13⟩;have hR14 := hc7.below hB13 hc7.lt;have hS13 := hres7.below hB13 hres7.lt;have hBB := hB7.trans (hB13.mono (Nat.le_of_lt hres7.lt));obtain ⟨q0,q1,q2,q3,q4,q5,q6⟩ := keep7 hR14 (Below.refl _ _);obtain ⟨p0,p1,p2,p3,p4,p5,p6⟩ := keep7 hS13 (Below.refl _ _);have pf := fun k => hS13.frozen k;clear hc7 hres7 hB7 hE hB13))
        obtain ⟨hbb,hBf⟩ := set7 hS13 hBB (Nat.le_refl _) (.int .u64 0) (.int .u32 0) (.int .i64 0) (.int .u64 0) (.int .u64 0) (.string ⟨#[]⟩) (.string ⟨#[]⟩)
        have hld := Rblk7_ret hbb
        refine bodyPost_ret (v := decV s) ?_ rfl ⟨rfl,hBf⟩
        rw [results_cell_tmp rfl,hans]
        simp [asAddr,Result.andThen,hld]
    · have hans := decV_no s (fun h => hr h.2.1)
      simp only [hr,if_false] at hE
      clear hV w1 w2 w3 w4 w5 w6 hr hcand x12 x13 x14 hbi k1 k2 k3 k4 k5
      go_wp2_with (first
        | (go_at_call 163;with_reducible refine (hE _).mono ?_;rintro e v13 ⟨rfl,hB13⟩;have hR14 := hc7.below hB13 hc7.lt;have hS13 := hres7.below hB13 hres7.lt;have hBB := hB7.trans (hB13.mono (Nat.le_of_lt hres7.lt));obtain ⟨q0,q1,q2,q3,q4,q5,q6⟩ := keep7 hR14 (Below.refl _ _);obtain ⟨p0,p1,p2,p3,p4,p5,p6⟩ := keep7 hS13 (Below.refl _ _);have pf := fun k => hS13.frozen k;clear hc7 hres7 hB7 hE hB13))
      obtain ⟨hbb,hBf⟩ := set7 hS13 hBB (Nat.le_refl _) (.int .u64 0) (.int .u32 0) (.int .i64 0) (.int .u64 0) (.int .u64 0) (.string ⟨#[]⟩) (.string ⟨#[]⟩)
      have hld := Rblk7_ret hbb
      refine bodyPost_ret (v := decV s) ?_ rfl ⟨rfl,hBf⟩
      rw [results_cell_tmp rfl,hans]
      simp [asAddr,Result.andThen,hld]
theorem R6Decode_any (s : ByteArray) (w : World) : Calls Tryz.prog 129 #[.string s] w fun e w' => e = .returned (decV s) ∧ Below w.heap.size w w' := by
  by_cases hs : s.size = 128
  · exact RDecode_128 s hs w
  · have : decV s = .tuple #[noRec.value, .int .i64 5] := by unfold decV;rw [decR_size hs]
    rw [this];exact RDecode_no s hs w
end Go.Proofs.YtidacaihmjdmkaaGreat
namespace Go.Proofs.YtidacaihmjdmkaaGreat
open Go.RowKit
attribute [local go_sem high] run_mx run_mn
theorem has_iff (s : LSt) (seg slot : Int) : s.has seg slot ↔ 0 ≤ slot ∧ slot < s.T.len seg := by
  unfold LSt.has
  constructor
  · rintro ⟨_,h2,h3⟩
    exact ⟨h2,h3⟩
  · rintro ⟨h2,h3⟩
    refine ⟨?_,h2,h3⟩
    rcases Int.lt_or_le (idx s.T.order seg) 0 with h | h
    · unfold Tab.len at h3
      rw [if_neg (by omega)] at h3
      omega
    · exact h
set_option maxHeartbeats 8000000 in
theorem RLRead_any (s : LSt) (hs : s.Ok) (r : RDsk) (hRl : Rel s.d r) (g gd : Nat) (epoch seg slot : Int) (AO : Option Addr) (cO : Nat) (AL : Option Addr) (cL : Nat) (AF : Option Addr) (cF : Nat)
    {S0 : Nat → Prop} {w0 w : World} {L : List Thing} (hS : Now S0 w0 w (rlogParts g gd s.T AO cO AL cL AF cF s.lsn epoch s.gen r ++ L)) :
    Calls Tryz.prog 69 #[.pointer (some ⟨g,0,none⟩), .agg #[.int .i64 seg, .int .i64 slot]] w fun e w' => e = .returned (s.read seg slot) ∧ Now S0 w0 w' (rlogParts g gd s.T AO cO AL cL AF cF s.lsn epoch s.gen r ++ L) := by
  have hrf : r.Fits := hRl.fits (Nat.le_trans hs.pend (by decide))
  have hrd := hRl.read (secOf s.T.slots seg slot)
  unfold LSt.read
  by_cases hh : s.has seg slot
  case neg =>
    rw [if_neg hh]
    rw [has_iff] at hh
    obtain ⟨T,lsn,gen,d⟩ := s
    have hT : T.Ok := hs.t
    have hmn := hT.many
    have hS1 := Now.pushCells (Now.pushCells hS 90 #[.int .i64 seg, .int .i64 slot]) 118 #[.int .u64 0, .int .u32 0, .int .i64 0, .int .u64 0, .int .u64 0, .string ⟨#[]⟩, .string ⟨#[]⟩]
    simp only [World.size_alloc] at hS1
    dsimp only at *
    clear hS
    go_enter Tryz.func69,Tryz.ntmps69
    go_wp2_with fail
    generalize (w.alloc (.cells #[.int .i64 seg, .int .i64 slot] 90)).alloc (.cells #[.int .u64 0, .int .u32 0, .int .i64 0, .int .u64 0, .int .u64 0, .string ⟨#[]⟩, .string ⟨#[]⟩] 118) = wb at hS1 ⊢
    have hlog := Now.blk (pre:=[_,_]) hS1
    have hloc := Now.blk (pre:=[_]) hS1
    have htab := tabIn_of (pre:=[_,_,_]) hS1
    have hcell : ∀ v,Newer wb.drew v → v.cell? ⟨g,1,none⟩ = some (.int .i64 T.segs) ∧ v.cell? ⟨g,2,none⟩ = some (.int .i64 T.slots) ∧ v.cell? ⟨g,3,none⟩ = some (.slice AO T.order.length cO) ∧ v.cell? ⟨g,4,none⟩ = some (.slice AL T.lens.length cL) ∧ v.cell? ⟨g,5,none⟩ = some (.slice AF T.firsts.length cF) ∧ v.cell? ⟨w.heap.size,0,none⟩ = some (.int .i64 seg) ∧ v.cell? ⟨w.heap.size,1,none⟩ = some (.int .i64 slot) := fun v hv => by
      have hb1 := hlog.below hv.undrew hlog.lt
      have hb2 := hloc.below hv.undrew hloc.lt
      exact ⟨hb1.cell 1,hb1.cell 2,hb1.cell 3,hb1.cell 4,hb1.cell 5,hb2.cell 0,hb2.cell 1⟩
    have hle := fun v (hv : Newer wb.drew v) => RLen_any T hT AO cO AL cL AF cF seg v ((htab.below hv.undrew).more hv.size)
    have hS2 := hS1.drew
    clear hS1 hlog hloc htab
    by_cases h2 : slot < 0
    · clear hh
      refine wp_region_ord Newer.grow [(0,true),(1,true),(2,true),(3,true),(4,true),(5,true),(6,true),(7,true),(8,true),(9,true),(10,true),(11,true),(12,true),(13,true),(14,true)] [] (by kernel_rfl) (by kernel_rfl) rfl (by kernel_rfl) (by intro _ _ d _ _ h;cases d <;> exact h) ?_
      iterate 15
        (apply wpOrd_take
         · exact rfl
         · intro w1 h1
           (obtain ⟨c1,c2,c3,c4,c5,l0,l1⟩ := hcell w1 h1)
           go_simp
           first
             | with_reducible exact ⟨rfl,sqN _⟩
             | with_reducible exact hle _ h1 | with_reducible exact rfl
         simp only [Act.put,sqA,sqB,sqC])
      refine wpOrd_done fun w3 h3 => ?_
      have hS3 := Now.below hS2 h3
      have hrb := Now.blk (pre:=[]) hS3
      have q0 : w3.cell? ⟨w.heap.size + 1,0,none⟩ = some (.int .u64 0) := hrb.cell 0
      have q1 : w3.cell? ⟨w.heap.size + 1,1,none⟩ = some (.int .u32 0) := hrb.cell 1
      have q2 : w3.cell? ⟨w.heap.size + 1,2,none⟩ = some (.int .i64 0) := hrb.cell 2
      have q3 : w3.cell? ⟨w.heap.size + 1,3,none⟩ = some (.int .u64 0) := hrb.cell 3
      have q4 : w3.cell? ⟨w.heap.size + 1,4,none⟩ = some (.int .u64 0) := hrb.cell 4
      have q5 : w3.cell? ⟨w.heap.size + 1,5,none⟩ = some (.string ⟨#[]⟩) := hrb.cell 5
      have q6 : w3.cell? ⟨w.heap.size + 1,6,none⟩ = some (.string ⟨#[]⟩) := hrb.cell 6
      have fq := fun k => hrb.frozen k
      clear hrb hcell hle hS2 h3
      go_wp2_with fail
      have hS4 := Now.set_ (pre:=[]) (Now.set_ (pre:=[]) (Now.set_ (pre:=[]) (Now.set_ (pre:=[]) (Now.set_ (pre:=[]) (Now.set_ (pre:=[]) (Now.set_ (pre:=[]) hS3 0 (.int .u64 0)) 1 (.int .u32 0)) 2 (.int .i64 0)) 3 (.int .u64 0)) 4 (.int .u64 0)) 5 (.string ⟨#[]⟩)) 6 (.string ⟨#[]⟩)
      refine bodyPost_ret (v := .tuple #[noRec.value, .int .i64 3]) ?_ rfl ⟨rfl,Now.drop (pre:=[]) (Now.drop (pre:=[]) hS4)⟩
      exact results_row_tmp rfl _ _ _ _ _ _ _ (by simp) (by simp) (Now.blk (pre:=[]) hS4) Tryz.underlying118 rfl (by kernel_rfl)
    have h3 : T.len seg ≤ slot := by
      rcases Int.lt_or_le slot (T.len seg) with h | h
      · exact absurd ⟨by omega,h⟩ hh
      · exact h
    clear hh
    refine wp_region_ord Newer.grow [(0,true),(1,true),(2,true),(3,true),(4,true),(5,true),(6,true),(7,true),(8,true),(9,true),(10,true),(11,true),(12,true),(13,true),(14,true)] [] (by kernel_rfl) (by kernel_rfl) rfl (by kernel_rfl) (by intro _ _ d _ _ h;cases d <;> exact h) ?_
    iterate 15
      (apply wpOrd_take
       · exact rfl
       · intro w1 h1
         (obtain ⟨c1,c2,c3,c4,c5,l0,l1⟩ := hcell w1 h1)
         go_simp
         first
           | with_reducible exact ⟨rfl,sqN _⟩
           | with_reducible exact hle _ h1 | with_reducible exact rfl
       simp only [Act.put,sqA,sqB,sqC])
    refine wpOrd_done fun w3 h3 => ?_
    have hS3 := Now.below hS2 h3
    have hrb := Now.blk (pre:=[]) hS3
    have q0 : w3.cell? ⟨w.heap.size + 1,0,none⟩ = some (.int .u64 0) := hrb.cell 0
    have q1 : w3.cell? ⟨w.heap.size + 1,1,none⟩ = some (.int .u32 0) := hrb.cell 1
    have q2 : w3.cell? ⟨w.heap.size + 1,2,none⟩ = some (.int .i64 0) := hrb.cell 2
    have q3 : w3.cell? ⟨w.heap.size + 1,3,none⟩ = some (.int .u64 0) := hrb.cell 3
    have q4 : w3.cell? ⟨w.heap.size + 1,4,none⟩ = some (.int .u64 0) := hrb.cell 4
    have q5 : w3.cell? ⟨w.heap.size + 1,5,none⟩ = some (.string ⟨#[]⟩) := hrb.cell 5
    have q6 : w3.cell? ⟨w.heap.size + 1,6,none⟩ = some (.string ⟨#[]⟩) := hrb.cell 6
    have fq := fun k => hrb.frozen k
    clear hrb hcell hle hS2 h3
    go_wp2_with fail
    have hS4 := Now.set_ (pre:=[]) (Now.set_ (pre:=[]) (Now.set_ (pre:=[]) (Now.set_ (pre:=[]) (Now.set_ (pre:=[]) (Now.set_ (pre:=[]) (Now.set_ (pre:=[]) hS3 0 (.int .u64 0)) 1 (.int .u32 0)) 2 (.int .i64 0)) 3 (.int .u64 0)) 4 (.int .u64 0)) 5 (.string ⟨#[]⟩)) 6 (.string ⟨#[]⟩)
    refine bodyPost_ret (v := .tuple #[noRec.value, .int .i64 3]) ?_ rfl ⟨rfl,Now.drop (pre:=[]) (Now.drop (pre:=[]) hS4)⟩
    exact results_row_tmp rfl _ _ _ _ _ _ _ (by simp) (by simp) (Now.blk (pre:=[]) hS4) Tryz.underlying118 rfl (by kernel_rfl)
  rw [if_pos hh,hrd.2]
  have hidx := hh.1
  rw [has_iff] at hh
  have hdc := fun v => R6Decode_any (r.readV (secOf s.T.slots seg slot)) v
  have hlr := RRead_all gd r (secOf s.T.slots seg slot) hrf
  obtain ⟨⟨x0,x1,x2,x3,x4,x5,x6⟩,xe,hv⟩ := decV_cases (r.readV (secOf s.T.slots seg slot))
  rw [hv] at hdc ⊢
  generalize r.readV (secOf s.T.slots seg slot) = rv at hlr hdc
  generalize r.readE (secOf s.T.slots seg slot) = re at hlr
  clear hv hrd
  unfold Rec.value at hdc ⊢
  obtain ⟨T,lsn,gen,d⟩ := s
  have hT : T.Ok := hs.t
  have hmn := hT.many
  have hS1 := Now.pushCells (Now.pushCells hS 90 #[.int .i64 seg, .int .i64 slot]) 118 #[.int .u64 0, .int .u32 0, .int .i64 0, .int .u64 0, .int .u64 0, .string ⟨#[]⟩, .string ⟨#[]⟩]
  simp only [World.size_alloc] at hS1
  dsimp only at *
  clear hS
  go_enter Tryz.func69,Tryz.ntmps69
  go_wp2_with fail
  generalize (w.alloc (.cells #[.int .i64 seg, .int .i64 slot] 90)).alloc (.cells #[.int .u64 0, .int .u32 0, .int .i64 0, .int .u64 0, .int .u64 0, .string ⟨#[]⟩, .string ⟨#[]⟩] 118) = wb at hS1 ⊢
  have hlog := Now.blk (pre:=[_,_]) hS1
  have hloc := Now.blk (pre:=[_]) hS1
  have htab := tabIn_of (pre:=[_,_,_]) hS1
  have hcell : ∀ v,Newer wb.drew v → v.cell? ⟨g,1,none⟩ = some (.int .i64 T.segs) ∧ v.cell? ⟨g,2,none⟩ = some (.int .i64 T.slots) ∧ v.cell? ⟨g,3,none⟩ = some (.slice AO T.order.length cO) ∧ v.cell? ⟨g,4,none⟩ = some (.slice AL T.lens.length cL) ∧ v.cell? ⟨g,5,none⟩ = some (.slice AF T.firsts.length cF) ∧ v.cell? ⟨w.heap.size,0,none⟩ = some (.int .i64 seg) ∧ v.cell? ⟨w.heap.size,1,none⟩ = some (.int .i64 slot) := fun v hv => by
    have hb1 := hlog.below hv.undrew hlog.lt
    have hb2 := hloc.below hv.undrew hloc.lt
    exact ⟨hb1.cell 1,hb1.cell 2,hb1.cell 3,hb1.cell 4,hb1.cell 5,hb2.cell 0,hb2.cell 1⟩
  have hle := fun v (hv : Newer wb.drew v) => RLen_any T hT AO cO AL cL AF cF seg v ((htab.below hv.undrew).more hv.size)
  have hS2 := hS1.drew
  clear hS1 hlog hloc htab
  obtain ⟨h2,h3⟩ := hh
  have hsg : 0 ≤ seg ∧ seg < 16 := by
    have := hT.inn seg (idx_in hidx)
    have := hT.segs
    omega
  have hsl2 := hT.slots
  have hll := T.len_in hT seg
  clear hidx
  refine wp_region_ord Newer.grow [(0,true),(1,true),(2,true),(3,true),(4,true),(5,true),(6,true),(7,true),(8,true),(9,true),(10,true),(11,true),(12,true),(13,true),(14,true)] [] (by kernel_rfl) (by kernel_rfl) rfl (by kernel_rfl) (by intro _ _ d _ _ h;cases d <;> exact h) ?_
  iterate 15
    (apply wpOrd_take
     · exact rfl
     · intro w1 h1
       (obtain ⟨c1,c2,c3,c4,c5,l0,l1⟩ := hcell w1 h1)
       go_simp
       first
         | with_reducible exact ⟨rfl,sqN _⟩
         | with_reducible exact hle _ h1 | with_reducible exact rfl
     simp only [Act.put,sqA,sqB,sqC])
  refine wpOrd_done fun w3 h3w => ?_
  have hS3 := Now.below hS2 h3w
  clear hcell hle hS2 h3w
  go_wp2_with fail
  have hlog := Now.blk (pre:=[_,_]) hS3
  have hloc := Now.blk (pre:=[_]) hS3
  have HB1 : g < w3.drew.heap.size := hlog.lt
  have hcell : ∀ v,KeepG g w3.drew v ∧ KeepG w.heap.size w3.drew v → v.cell? ⟨g,0,none⟩ = some (.pointer (some ⟨gd,0,none⟩)) ∧ v.cell? ⟨g,2,none⟩ = some (.int .i64 T.slots) ∧ v.cell? ⟨w.heap.size,0,none⟩ = some (.int .i64 seg) ∧ v.cell? ⟨w.heap.size,1,none⟩ = some (.int .i64 slot) := fun v hv => by
    have hb1 := KeepG.blk (w := w3.drew) hv.1 hlog
    have hb2 := KeepG.blk (w := w3.drew) hv.2 hloc
    exact ⟨hb1.cell 0,hb1.cell 2,hb2.cell 0,hb2.cell 1⟩
  have hsec := fun v => RSector_ok T.slots seg slot hsl2 hsg ⟨h2,by omega⟩ v
  have hS4 := hS3.drew
  clear hS3 hlog hloc
  refine wp_region_takes ((KeepG.grow g).and (KeepG.grow w.heap.size)) [] [(0,false),(1,false),(2,false),(3,false),(4,false),(5,false),(6,false),(7,false),(8,false),(9,false),(10,false)] 6 (by kernel_rfl) (by kernel_rfl) rfl (by kernel_rfl) (by intro _ _ d _ _ h;cases d <;> exact h) ?_
  iterate 11
    (apply wpTakes_take
     · exact rfl
     · intro w1v hR1
       (obtain ⟨c0,c2,l0,l1⟩ := hcell w1v hR1)
       go_simp
       first
         | with_reducible exact ⟨rfl,sqN _⟩
         | with_reducible exact hsec _
     simp only [Act.put,sqA,sqB,sqC])
  refine wpTakes_done ?_
  clear hcell HB1 hsec
  generalize w3.drew = wc at hS4 ⊢
  refine wpAnyE_fork [11] (by kernel_rfl) (by simp) ?_
  refine sqM ?_
  refine ⟨_,rfl,?_⟩
  intro w1 h1 K hK
  replace hS4 := Now.below hS4 h1
  have hwr := Loc.atZ hlr [_,_,_,_,_,_] L hS4
  go_simp
  go_at_call 70
  refine hwr.mono ?_
  rintro e w8 ⟨rfl,hz,hS9⟩
  refine hK _ _ (fun _ => ⟨fun _ => ⟨(Now.blk (pre:=[_,_]) hS9).trans (Now.blk (pre:=[_,_]) hS4).symm,hz⟩,fun _ => ⟨(Now.blk (pre:=[_]) hS9).trans (Now.blk (pre:=[_]) hS4).symm,hz⟩⟩) ?_
  clear hK K hwr hS4 hz h1
  clear w1
  try simp only [Act.put,sqA,sqB,sqC]
  apply wpAnyE_pure ((KeepG.grow g).and (KeepG.grow w.heap.size)) 12
  · kernel_rfl
  · intro _ _ d _ _ h;cases d <;> exact h
  · exact rfl
  · kernel_rfl
  · intro w1
    go_simp
    exact ⟨rfl,sqN _⟩
  try simp only [Act.put,sqA,sqB,sqC]
  apply wpAnyE_pure ((KeepG.grow g).and (KeepG.grow w.heap.size)) 13
  · kernel_rfl
  · intro _ _ d _ _ h;cases d <;> exact h
  · exact rfl
  · kernel_rfl
  · intro w1
    go_simp
    exact ⟨rfl,sqN _⟩
  try simp only [Act.put,sqA,sqB,sqC]
  apply wpAnyE_pure ((KeepG.grow g).and (KeepG.grow w.heap.size)) 14
  · kernel_rfl
  · intro _ _ d _ _ h;cases d <;> exact h
  · exact rfl
  · kernel_rfl
  · intro w1
    go_simp
    exact ⟨rfl,sqN _⟩
  try simp only [Act.put,sqA,sqB,sqC]
  apply wpAnyE_pure ((KeepG.grow g).and (KeepG.grow w.heap.size)) 15
  · kernel_rfl
  · intro _ _ d _ _ h;cases d <;> exact h
  · exact rfl
  · kernel_rfl
  · intro w1
    go_simp
    exact ⟨rfl,sqN _⟩
  try simp only [Act.put,sqA,sqB,sqC]
  apply wpAnyE_pure ((KeepG.grow g).and (KeepG.grow w.heap.size)) 16
  · kernel_rfl
  · intro _ _ d _ _ h;cases d <;> exact h
  · exact rfl
  · kernel_rfl
  · intro w1
    go_simp
    exact ⟨rfl,sqN _⟩
  try simp only [Act.put,sqA,sqB,sqC]
  refine wpAnyE_end (by kernel_rfl) fun w5 h5 => ?_
  have hS5 := Now.below hS9 h5
  clear hS9 h5
  go_wp2_with (go_at_call 129;(with_reducible refine (hdc _).mono ?_);rintro e w6 ⟨rfl,hB⟩;have hS6 := Now.below hS5 hB;have hrb := Now.blk (pre:=[]) hS6;have q0 : w6.cell? ⟨w.heap.size + 1,0,none⟩ = some (.int .u64 0) := hrb.cell 0;have q1 : w6.cell? ⟨w.heap.size + 1,1,none⟩ = some (.int .u32 0) := hrb.cell 1;have q2 : w6.cell? ⟨w.heap.size + 1,2,none⟩ = some (.int .i64 0) := hrb.cell 2;have q3 : w6.cell? ⟨w.heap.size + 1,3,none⟩ = some (.int .u64 0) := hrb.cell 3;have q4 : w6.cell? ⟨w.heap.size + 1,4,none⟩ = some (.int .u64 0) := hrb.cell 4;have q5 : w6.cell? ⟨w.heap.size + 1,5,none⟩ = some (.string ⟨#[]⟩) := hrb.cell 5;have q6 : w6.cell? ⟨w.heap.size + 1,6,none⟩ = some (.string ⟨#[]⟩) := hrb.cell 6;have fq := fun k => hrb.frozen k;clear hrb hdc hB hS5)
  have hS7 := Now.set_ (pre:=[]) (Now.set_ (pre:=[]) (Now.set_ (pre:=[]) (Now.set_ (pre:=[]) (Now.set_ (pre:=[]) (Now.set_ (pre:=[]) (Now.set_ (pre:=[]) hS6 0 (.int .u64 x0)) 1 (.int .u32 x1)) 2 (.int .i64 x2)) 3 (.int .u64 x3)) 4 (.int .u64 x4)) 5 (.string x5)) 6 (.string x6)
  refine bodyPost_ret (v := .tuple #[.agg #[.int .u64 x0, .int .u32 x1, .int .i64 x2, .int .u64 x3, .int .u64 x4, .string x5, .string x6], .int .i64 xe]) ?_ rfl ⟨rfl,Now.drop (pre:=[]) (Now.drop (pre:=[]) hS7)⟩
  exact results_row_tmp rfl _ _ _ _ _ _ _ (by simp) (by simp) (Now.blk (pre:=[]) hS7) Tryz.underlying118 rfl (by kernel_rfl)
end Go.Proofs.YtidacaihmjdmkaaGreat
namespace Go.Proofs.YtidacaihmjdmkaaGreat
open Go.RowKit
attribute [local go_sem high] run_mx run_mn
theorem refT_cells {S0 : Nat → Prop} {w0 w : World} {pre post : List Thing} {h : Nat} {r : RDsk} (hN : Now S0 w0 w (pre ++ refT h r :: post)) : ∃ A c A2 c2,w.cell? ⟨h,0,none⟩ = some (.slice A r.L.length c) ∧ w.cell? ⟨h,1,none⟩ = some (.slice A2 r.pend.length c2) ∧ h < w.heap.size := by
  obtain ⟨S,hO⟩ := hN.get
  obtain ⟨vL,vW,vX,hP⟩ := (Now.start1 hO).refOpen
  obtain ⟨c0,c1,_⟩ := hP.refCells
  obtain ⟨⟨A,c,rfl,_⟩,⟨A2,c2,rfl,_⟩,_⟩ := hP.refRows
  exact ⟨A,c,A2,c2,c0,c1,(Now.blk (pre:=[]) hP).lt⟩
set_option maxHeartbeats 8000000 in
theorem RFormat_arg (gd : Nat) (r : RDsk) (c : Cnf) (hb : c.share < 18446744073709551616) (hm : c.may = false) {S0 : Nat → Prop} {w0 w : World} {L : List Thing} (hS : Now S0 w0 w (refT gd r :: L)) :
    Calls Tryz.prog 15 #[.pointer (some ⟨gd,0,none⟩), .agg c.cells] w fun e w' => e = .returned (.tuple #[.pointer none, .int .i64 1]) ∧ Now S0 w0 w' (refT gd r :: L) := by
  have hq := fun v => May_any c hb v
  rw [hm] at hq
  clear hm
  have hS1 := Now.back (pre:=[_]) (Now.pushCells hS 24 c.cells)
  have hc := Now.blk (pre:=[_]) hS1
  have c0 : _ = some (Value.int .i64 c.segs) := hc.cell 0
  have c1 : _ = some (Value.int .i64 c.slots) := hc.cell 1
  have c2 : _ = some (Value.float .f64 c.share) := hc.cell 2
  have c3 : _ = some (Value.int .i64 c.rate) := hc.cell 3
  clear hc hS
  go_enter Tryz.func15,Tryz.ntmps15
  go_wp2_with (go_at_call 30;(with_reducible refine (hq _).mono ?_);rintro e w1 ⟨rfl,hB⟩;have hS2 := Now.below hS1 hB;clear hS1 hq c0 c1 c2 c3)
  refine bodyPost_ret (v := .tuple #[.pointer none, .int .i64 1]) ?_ rfl ⟨rfl,Now.drop (pre:=[_]) hS2⟩
  rw [results_tmp2 rfl]
  simp
set_option maxHeartbeats 8000000 in
theorem RFormat_full (gd : Nat) (r : RDsk) (c : Cnf) (hb : c.share < 18446744073709551616) (hm : c.may = true) (hn : (r.L.length : Int) < c.sectors) {S0 : Nat → Prop} {w0 w : World} {L : List Thing} (hS : Now S0 w0 w (refT gd r :: L)) :
    Calls Tryz.prog 15 #[.pointer (some ⟨gd,0,none⟩), .agg c.cells] w fun e w' => e = .returned (.tuple #[.pointer none, .int .i64 10]) ∧ Now S0 w0 w' (refT gd r :: L) := by
  have hq := fun v => May_any c hb v
  rw [hm] at hq
  clear hm
  have hS1 := Now.back (pre:=[_]) (Now.pushCells hS 24 c.cells)
  have hc := Now.blk (pre:=[_]) hS1
  have c0 : _ = some (Value.int .i64 c.segs) := hc.cell 0
  have c1 : _ = some (Value.int .i64 c.slots) := hc.cell 1
  have c2 : _ = some (Value.float .f64 c.share) := hc.cell 2
  have c3 : _ = some (Value.int .i64 c.rate) := hc.cell 3
  clear hc hS
  go_enter Tryz.func15,Tryz.ntmps15
  go_wp2_with (go_at_call 30;(with_reducible refine (hq _).mono ?_);rintro e w1 ⟨rfl,hB⟩;have hS2 := Now.below hS1 hB;clear hS1 hq c0 c1 c2 c3)
  have hc := Now.blk (pre:=[_]) hS2
  obtain ⟨LA,lc,_,_,hl0,_,hlt⟩ := refT_cells (pre:=[]) hS2
  have hcell : ∀ v,Newer w1.drew v → v.cell? ⟨w.heap.size,0,none⟩ = some (.int .i64 c.segs) ∧ v.cell? ⟨w.heap.size,1,none⟩ = some (.int .i64 c.slots) ∧ v.cell? ⟨w.heap.size,2,none⟩ = some (.float .f64 c.share) ∧ v.cell? ⟨w.heap.size,3,none⟩ = some (.int .i64 c.rate) ∧ v.cell? ⟨gd,0,none⟩ = some (.slice LA r.L.length lc) := fun v hv => by
    have h2 := hc.below hv.undrew hc.lt
    exact ⟨h2.cell 0,h2.cell 1,h2.cell 2,h2.cell 3,(hv.undrew.cell hlt).trans hl0⟩
  have hsc := fun v => RSectors_any c hb v
  have hS3 := hS2.drew
  clear hS2 hc hl0 hlt
  refine wp_region_ord Newer.grow [(0,true),(1,true),(2,true),(3,true),(4,true),(5,true),(6,true),(7,true)] [] (by kernel_rfl) (by kernel_rfl) rfl (by kernel_rfl) (by intro _ _ d _ _ h;cases d <;> exact h) ?_
  iterate 8
    (apply wpOrd_take
     · exact rfl
     · intro w1 h1
       (obtain ⟨c0,c1,c2,c3,d0⟩ := hcell w1 h1)
       go_simp
       first
         | with_reducible exact ⟨rfl,sqN _⟩
         | with_reducible exact hsc _
     simp only [Act.put,sqA,sqB,sqC])
  refine wpOrd_done fun w3 h3 => ?_
  replace hS3 := Now.below hS3 h3
  clear hcell hsc h3
  go_wp2_with fail
  refine bodyPost_ret (v := .tuple #[.pointer none, .int .i64 10]) ?_ rfl ⟨rfl,Now.drop (pre:=[_]) hS3⟩
  rw [results_tmp2 rfl]
  simp
set_option maxHeartbeats 8000000 in
theorem RFormat_ok (gd : Nat) (n : Nat) (hn1 : 2 ≤ n) (hn2 : n ≤ 4096) (c : Cnf) (hb : c.share < 18446744073709551616) (hm : c.may = true) (hn : c.sectors ≤ n) {S0 : Nat → Prop} {w0 w : World} {L : List Thing} (hS : Now S0 w0 w (refT gd (newRef n) :: L)) :
    Calls Tryz.prog 15 #[.pointer (some ⟨gd,0,none⟩), .agg c.cells] w fun e w' => ∃ g,e = .returned (.tuple #[.pointer (some ⟨g,0,none⟩), .int .i64 0]) ∧ GotR S0 w0 w' ⟨newTab c.segs c.slots 1,1,1,madeD n c⟩ g gd 1 L := by
  have hq := fun v => May_any c hb v
  rw [hm] at hq
  obtain ⟨hs1,hs2⟩ := Cnf.may_in hm
  have hT := newTab_ok c.segs c.slots 1 hs1 hs2 (by omega)
  have hnw := fun v => RNew_tab c.segs c.slots 1 hs1 hs2 v
  have hRl := Rel.new n (by omega) hn2
  have hLn : (newRef n).L.length = n := List.length_replicate
  have hok : (⟨newTab c.segs c.slots 1,1,0,newDsk n⟩ : LSt).Ok := ⟨hT,by show (1:Int) ≤ 1 ∧ (1:Int) < _;omega,by show (0:Int) ≤ 0 ∧ (0:Int) < _;omega,by show 0 ≤ 100000;omega⟩
  have hck := fun g AO cO AL cL AF cF v (M : List Thing) (h : Now S0 w0 v (rlogParts g gd (newTab c.segs c.slots 1) AO cO AL cL AF cF 1 1 0 (newRef n) ++ M)) => RCk_any hok (newRef n) hRl g gd 1 (by omega) 0 (by omega) AO cO AL cL AF cF h
  have hans : (⟨newTab c.segs c.slots 1,1,0,newDsk n⟩ : LSt).ck 1 0 = (0,⟨newTab c.segs c.slots 1,1,1,madeD n c⟩) := by
    unfold LSt.ck
    have h := ckDo_new n (by omega) ⟨(fmtC c).enc.toArray⟩ (enc_size _)
    change ckDo (newDsk n) 0 ⟨((newTab c.segs c.slots 1).chk (0 + 1) 1 1 0).enc.toArray⟩ = _ at h
    dsimp only
    rw [h]
    rfl
  simp only [hans] at hck
  clear hans hok hRl hm hT hs1 hs2
  generalize newTab c.segs c.slots 1 = T at *
  generalize madeD n c = D at *
  generalize hrr : newRef n = r at *
  clear hrr
  have hnI : c.sectors ≤ (r.L.length : Int) := by omega
  clear hn hn1 hn2 hLn
  have hS1 := Now.back (pre:=[_]) (Now.pushCells hS 24 c.cells)
  have hc := Now.blk (pre:=[_]) hS1
  have c0 : _ = some (Value.int .i64 c.segs) := hc.cell 0
  have c1 : _ = some (Value.int .i64 c.slots) := hc.cell 1
  have c2 : _ = some (Value.float .f64 c.share) := hc.cell 2
  have c3 : _ = some (Value.int .i64 c.rate) := hc.cell 3
  clear hc hS
  go_enter Tryz.func15,Tryz.ntmps15
  go_wp2_with (go_at_call 30;(with_reducible refine (hq _).mono ?_);rintro e w1 ⟨rfl,hB⟩;have hS2 := Now.below hS1 hB;clear hS1 hq c0 c1 c2 c3)
  have hc := Now.blk (pre:=[_]) hS2
  obtain ⟨LA,lc,_,_,hl0,_,hlt⟩ := refT_cells (pre:=[]) hS2
  have hcell : ∀ v,Newer w1.drew v → v.cell? ⟨w.heap.size,0,none⟩ = some (.int .i64 c.segs) ∧ v.cell? ⟨w.heap.size,1,none⟩ = some (.int .i64 c.slots) ∧ v.cell? ⟨w.heap.size,2,none⟩ = some (.float .f64 c.share) ∧ v.cell? ⟨w.heap.size,3,none⟩ = some (.int .i64 c.rate) ∧ v.cell? ⟨gd,0,none⟩ = some (.slice LA r.L.length lc) := fun v hv => by
    have h2 := hc.below hv.undrew hc.lt
    exact ⟨h2.cell 0,h2.cell 1,h2.cell 2,h2.cell 3,(hv.undrew.cell hlt).trans hl0⟩
  have hsc := fun v => RSectors_any c hb v
  have hS3 := hS2.drew
  clear hS2 hc hl0 hlt
  refine wp_region_ord Newer.grow [(0,true),(1,true),(2,true),(3,true),(4,true),(5,true),(6,true),(7,true)] [] (by kernel_rfl) (by kernel_rfl) rfl (by kernel_rfl) (by intro _ _ d _ _ h;cases d <;> exact h) ?_
  iterate 8
    (apply wpOrd_take
     · exact rfl
     · intro w1 h1
       (obtain ⟨c0,c1,c2,c3,d0⟩ := hcell w1 h1)
       go_simp
       first
         | with_reducible exact ⟨rfl,sqN _⟩
         | with_reducible exact hsc _
     simp only [Act.put,sqA,sqB,sqC])
  refine wpOrd_done fun w3 h3 => ?_
  replace hS3 := Now.below hS3 h3
  clear hcell hsc h3
  have hc := Now.blk (pre:=[_]) hS3
  have c0 : w3.cell? ⟨w.heap.size,0,none⟩ = some (Value.int .i64 c.segs) := hc.cell 0
  have c1 : w3.cell? ⟨w.heap.size,1,none⟩ = some (Value.int .i64 c.slots) := hc.cell 1
  clear hc
  go_wp2_with (first
    | (go_at_call 61;(with_reducible refine (hnw _).mono ?_);rintro e w4 ⟨A1,k1,A2,k2,A3,k3,rfl,hO⟩;have hS4 := Now.pushCells (Now.pushCells (Now.pushAll hS3 hO) 71 (tabCells T A1 k1 A2 k2 A3 k3)) 112 (logCells gd T A1 k1 A2 k2 A3 k3 1 1 0);simp only [World.size_alloc] at hS4;clear hS3 hnw hO c0 c1)
    | (go_at_call 62;have hS6 := Now.drop (pre:=[_]) (Now.back (pre:=[_,_,_,_,_]) (Now.front (pre:=[_,_,_,_,_]) hS4));refine (hck _ A1 k1 A2 k2 A3 k3 _ _ hS6).mono ?_;rintro e w6 ⟨rfl,hS7⟩;clear hck hS6))
  obtain ⟨r',B1,l1,B2,l2,B3,l3,hR',hS8⟩ := hS7
  refine bodyPost_ret (v := .tuple #[.pointer (some ⟨_,0,none⟩), .int .i64 0]) ?_ rfl ⟨_,rfl,r',B1,l1,B2,l2,B3,l3,hR',Now.drop (pre:=[_,_,_,_,_]) hS8⟩
  rw [results_tmp2 rfl]
  simp
end Go.Proofs.YtidacaihmjdmkaaGreat
namespace Go.Proofs.YtidacaihmjdmkaaGreat
open Go.RowKit
attribute [local go_sem high] run_mx run_mn
set_option maxRecDepth 100000 in
set_option maxHeartbeats 4000000 in
theorem SameD_any (g h : Nat) (d : Dsk) (r : RDsk) (hR : Rel d r) (hp : d.pend.length ≤ 1000000000) (S0 : Nat → Prop) (w0 w : World) (L : List Thing) (hN : Now S0 w0 w (dskT g d :: refT h r :: L)) :
    Calls Tryz.prog 20 #[.pointer (some ⟨g,0,none⟩), .pointer (some ⟨h,0,none⟩)] w fun e w' => e = .returned (.int .i64 1) ∧ Now S0 w0 w' (dskT g d :: refT h r :: L) := by
  have hF := hR.fits hp
  have hlen := hR.len
  go_enter Tryz.func20,Tryz.ntmps20
  go_wp2
  go_loopw [5] (fun i wr => ∃ k : Nat,k ≤ r.L.length ∧ i = .int .i64 k ∧ Now S0 w0 wr (dskT g d :: refT h r :: L)) (fun i _ => r.L.length - (intOf i).toNat)
  case atStart => exact ⟨0,by omega,rfl,hN⟩
  case round =>
    clear hN
    obtain ⟨k,hk,rfl,hN⟩ := hrel
    obtain ⟨S,⟨⟨vL,vW,vX⟩,h1⟩⟩ := Now.get (pre:=[_]) hN
    have c0 := (Now.start h1).refCells.1
    obtain ⟨⟨AL,cL,rfl,_⟩,_⟩ := (Now.start h1).refRows
    clear h1
    by_cases hlt : k < r.L.length ∧ k < 64
    · obtain ⟨hlt,hlt2⟩ := hlt
      have e1 : d.readE k = 0 := by unfold Dsk.readE;rw [if_pos (by rw [hR.n];omega)]
      obtain ⟨e2,e3⟩ := hR.read k
      have r1 := fun w hN => (LRead g d k hp).at_ (S0 := S0) (w0 := w0) (w := w) [] (refT h r :: L) hN
      have r2 := fun w hN => (RRead_all h r k hF).at_ (S0 := S0) (w0 := w0) (w := w) [dskT g d] L hN
      rw [← e2, ← e3,e1] at r2
      rw [e1] at r1
      generalize d.readV (k : Int) = s at r1 r2
      clear e1 e2 e3 hR hF
      go_wp2_with (first
        | (go_at_call 57;with_reducible refine (r1 _ hN).mono ?_;rintro e w1 ⟨rfl,hN1⟩;clear r1 hN c0)
        | (go_at_call 70;with_reducible refine (r2 _ hN1).mono ?_;rintro e w2 ⟨rfl,hN2⟩;clear r2 hN1))
      go_roundw
      case rel => exact ⟨k + 1,by omega,by go_num,hN2⟩
      case measure => simp [intOf];omega
    · have hgd : (k < r.L.length ∧ ¬ k < 64) ∨ ¬ k < r.L.length := by omega
      have HN := Lib.hid hN
      clear hlt hN
      rcases hgd with ⟨h1,h2⟩ | h1
      all_goals
        go_wp2
        go_ret
        exact ⟨rfl,HN.out⟩
end Go.Proofs.YtidacaihmjdmkaaGreat
