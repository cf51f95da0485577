/- What the laws of this seat lean on, part 24. -/
import Derived.Test.YtidacaihmjdmkaaGreatZK21
import Derived.Test.YtidacaihmjdmkaaGreatZK6
import Derived.Test.YtidacaihmjdmkaaGreatZK23
set_option linter.unusedSimpArgs false
set_option linter.unusedVariables false
set_option maxRecDepth 100000
namespace Go.Proofs.YtidacaihmjdmkaaGreat
open Go.RowKit
attribute [local go_sem high] run_mx run_mn
theorem below_of {B : Nat} {w w1 w2 : World} (h1 : Below B w w1) (h2 : Below B w w2) (hz : w1.heap.size ≤ w2.heap.size) : Below B w1 w2 :=
  ⟨h2.os.trans h1.os.symm,h2.tape.trans h1.tape.symm,h2.output.trans h1.output.symm,hz,fun k hk => (h2.block k hk).trans (h1.block k hk).symm⟩
def cutOf (l : List Int) (i k : Nat) : List Int := (l.take k).eraseIdx i
theorem cutOf_zero (l : List Int) (i : Nat) : cutOf l i 0 = [] := by simp [cutOf]
theorem cutOf_skip (l : List Int) (i : Nat) : cutOf l i (i + 1) = cutOf l i i := by
  unfold cutOf
  by_cases h : i < l.length
  · rw [List.take_add_one,List.eraseIdx_append_of_length_le (by rw [List.length_take];omega),List.length_take,show i - min i l.length = 0 by omega,List.getElem?_eq_getElem h,List.eraseIdx_of_length_le (l := l.take i) (by rw [List.length_take];omega)]
    simp
  · rw [List.take_of_length_le (by omega),List.take_of_length_le (by omega)]
theorem cutOf_more (l : List Int) (i k : Nat) {x : Int} (hx : l[k]? = some x) (hk : k ≠ i) : cutOf l i (k + 1) = cutOf l i k ++ [x] := by
  have hkl : k < l.length := (List.getElem?_eq_some_iff.1 hx).1
  unfold cutOf
  rw [List.take_add_one,hx]
  by_cases h : i < k
  · rw [List.eraseIdx_append_of_lt_length (by rw [List.length_take];omega)]
    rfl
  · rw [List.eraseIdx_append_of_length_le (by rw [List.length_take];omega),List.length_take,List.eraseIdx_of_length_le (l := l.take k) (by rw [List.length_take];omega)]
    congr 1
    rw [List.eraseIdx_of_length_le (by show 1 ≤ _;omega)]
    rfl
theorem cutOf_all (l : List Int) (i : Nat) : cutOf l i l.length = l.eraseIdx i := by unfold cutOf;rw [List.take_length]
theorem cutOf_len (l : List Int) (i k : Nat) : (cutOf l i k).length ≤ k := by
  unfold cutOf
  have h1 := List.length_eraseIdx_le (l.take k) i
  have h2 := List.length_take_le k l
  omega
set_option maxHeartbeats 4000000 in
theorem RDrop_bad (T : Tab) (hT : T.Ok) (AO : Option Addr) (cO : Nat) (AL : Option Addr) (cL : Nat) (AF : Option Addr) (cF : Nat) (seg : Int) (hl : idx T.order seg < 0 ∨ idx T.order seg = (T.order.length - 1 : Nat)) (w : World) (h : TabIn w w.heap.size T AO AL AF) :
    Calls Tryz.prog 124 #[.agg (tabCells T AO cO AL cL AF cF), .int .i64 seg] w fun e w' => e = .returned (.tuple #[.agg #[.int .i64 0, .int .i64 0, .slice none 0 0, .slice none 0 0, .slice none 0 0], .int .i64 1]) ∧ Newer w w' := by
  have hin := fun v (hv : Below w.heap.size w v) => In_box T hT cO cL cF seg h v hv
  have hp := hT.pos
  have hmn := hT.many
  have hw1 : IntKind.i64.wrap ((T.order.length : Int) - 1) = ((T.order.length - 1 : Nat) : Int) := by rw [IntWalk.i64_in _ (by omega)];omega
  have hS := Now.pushCells (Now.pushCells (Sep.start w) 71 (tabCells T AO cO AL cL AF cF)) 71 #[.int .i64 0, .int .i64 0, .slice none 0 0, .slice none 0 0, .slice none 0 0]
  simp only [World.size_alloc] at hS
  obtain ⟨m,hm⟩ : ∃ m : Nat,T.order.length - 1 = m := ⟨_,rfl⟩
  rw [hm] at hl hw1
  obtain ⟨x,hx⟩ : ∃ x,idx T.order seg = x := ⟨_,rfl⟩
  rw [hx] at hl hin
  clear h hx hp hmn hm hT
  rcases hl with hl | rfl
  all_goals
    go_enter Tryz.func124,Tryz.ntmps124
    go_wp2_with (go_at_call 108;(with_reducible refine (hin _ (Sep.base hS)).mono ?_);rintro e w1 ⟨rfl,hB⟩;replace hS := Now.below hS hB;have hcb := Now.blk (pre:=[_]) hS;have c2 : w1.cell? ⟨w.heap.size,2,none⟩ = some (.slice AO T.order.length cO) := hcb.cell 2;have hr := Now.blk (pre:=[]) hS;have fr := fun k => hr.frozen k;have r0 : w1.cell? ⟨w.heap.size + 1,0,none⟩ = some (Value.int .i64 0) := hr.cell 0;have r1 : w1.cell? ⟨w.heap.size + 1,1,none⟩ = some (Value.int .i64 0) := hr.cell 1;have r2 : w1.cell? ⟨w.heap.size + 1,2,none⟩ = some (Value.slice none 0 0) := hr.cell 2;have r3 : w1.cell? ⟨w.heap.size + 1,3,none⟩ = some (Value.slice none 0 0) := hr.cell 3;have r4 : w1.cell? ⟨w.heap.size + 1,4,none⟩ = some (Value.slice none 0 0) := hr.cell 4;replace hS := Lib.hid (Now.set5 (pre:=[]) hS (.int .i64 0) (.int .i64 0) (.slice none 0 0) (.slice none 0 0) (.slice none 0 0));clear hcb hr hB hin)
    refine bodyPost_ret (v := .tuple #[.agg #[.int .i64 0, .int .i64 0, .slice none 0 0, .slice none 0 0, .slice none 0 0], .int .i64 1]) ?_ rfl ⟨rfl,Sep.base hS.out⟩
    exact results_row_tmp rfl _ _ _ _ _ _ _ (by simp) (by simp) (Now.blk (pre:=[]) hS.out) Tryz.underlying71 rfl (by kernel_rfl)
-- MARK
set_option maxHeartbeats 16000000 in
theorem RDrop_ok (T : Tab) (hT : T.Ok) (AO : Option Addr) (cO : Nat) (AL : Option Addr) (cL : Nat) (AF : Option Addr) (cF : Nat) (seg : Int) (i : Nat) (hx : idx T.order seg = i) (hi : i + 1 < T.order.length) (w : World) (h : TabIn w w.heap.size T AO AL AF) :
    Calls Tryz.prog 124 #[.agg (tabCells T AO cO AL cL AF cF), .int .i64 seg] w fun e w' => GotTab w w' (T.drop i) e := by
  obtain ⟨i0,hi0,hz0,hz1,hz2⟩ := info_parts infoInt
  obtain ⟨j0,hj0,hy0,hy1,hy2⟩ := info_parts infoU64
  have hp := hT.pos
  have hmn := hT.many
  have hln := hT.len
  have hfn := hT.fst
  have hin := fun v (hv : Below w.heap.size w v) => In_box T hT cO cL cF seg h v hv
  obtain ⟨ada,rfl,_,_⟩ := h.o.2 (by omega)
  obtain ⟨adb,rfl,_,_⟩ := h.l.2 (by omega)
  obtain ⟨adz,rfl,_,_⟩ := h.f.2 (by omega)
  rw [hx] at hin
  obtain ⟨m,hm⟩ : ∃ m : Nat,T.order.length - 1 = m := ⟨_,rfl⟩
  have hw1 : IntKind.i64.wrap ((T.order.length : Int) - 1) = (m : Int) := by rw [IntWalk.i64_in _ (by omega)];omega
  have hn1 : ¬ (i : Int) < 0 := by omega
  have hn2 : ((i : Int) == (m : Int)) = false := beq_eq_false_iff_ne.2 (by omega)
  have hn3 : ¬ (i : Int) = (m : Int) := by omega
  have HI := Lib.hid hi
  have HL := Lib.hid hln
  have HF := Lib.hid hfn
  have HTI := Lib.hid h
  have HMN := Lib.hid hmn
  have hS := Now.pushCells (Now.pushCells (Sep.start w) 71 #[.int .i64 T.segs, .int .i64 T.slots, .slice (some ada) T.order.length cO, .slice (some adb) T.lens.length cL, .slice (some adz) T.firsts.length cF]) 71 #[.int .i64 0, .int .i64 0, .slice none 0 0, .slice none 0 0, .slice none 0 0]
  simp only [World.size_alloc] at hS
  clear h hx hi hp hmn hln hfn hT hm
  go_enter Tryz.func124,Tryz.ntmps124
  go_wp2_with (go_at_call 108;(with_reducible refine (hin _ (Sep.base hS)).mono ?_);rintro e w1 ⟨rfl,hB⟩;replace hS := Now.below hS hB;have hcb := Now.blk (pre:=[_]) hS;have c0 : w1.cell? ⟨w.heap.size,0,none⟩ = some (.int .i64 T.segs) := hcb.cell 0;have c1 : w1.cell? ⟨w.heap.size,1,none⟩ = some (.int .i64 T.slots) := hcb.cell 1;have c2 : w1.cell? ⟨w.heap.size,2,none⟩ = some (.slice (some ada) T.order.length cO) := hcb.cell 2;replace hS := Lib.hid (Now.pushCells (Now.pushNil (Now.pushNil (Now.pushNil hS 43 1) 3 1) 3 1) 71 #[.int .i64 T.segs, .int .i64 T.slots, .slice none 0 0, .slice none 0 0, .slice none 0 0]);clear hcb hB hin)
  replace hS := hS.out
  generalize w1.alloc (.cells #[.int .i64 T.segs, .int .i64 T.slots, .slice none 0 0, .slice none 0 0, .slice none 0 0] 71) = w2 at hS ⊢
  generalize w1.heap.size = y at hS ⊢
  have HS := Lib.hid hS
  clear hS c0 c1 c2 hn1 hn2 hn3 hw1
  go_loopw [8] (fun vi wr => ∃ (k : Nat) (O1 : Option Addr) (Oc : Nat) (L1 : Option Addr) (Lc : Nat) (F1 : Option Addr) (Fc : Nat),vi = .int .i64 k ∧ k ≤ T.order.length ∧ Hid (Sep w wr [Thing.cells y 71 #[.int .i64 T.segs, .int .i64 T.slots, .slice O1 (cutOf T.order i k).length Oc, .slice L1 (cutOf T.lens i k).length Lc, .slice F1 (cutOf T.firsts i k).length Fc],Thing.row 3 1 (.slice O1 (cutOf T.order i k).length Oc) (cutOf T.order i k).length (ints (cutOf T.order i k)),Thing.row 3 1 (.slice L1 (cutOf T.lens i k).length Lc) (cutOf T.lens i k).length (ints (cutOf T.lens i k)),Thing.row 43 1 (.slice F1 (cutOf T.firsts i k).length Fc) (cutOf T.firsts i k).length (u64s (cutOf T.firsts i k)),Thing.cells (w.heap.size + 1) 71 #[.int .i64 0, .int .i64 0, .slice none 0 0, .slice none 0 0, .slice none 0 0],Thing.cells w.heap.size 71 #[.int .i64 T.segs, .int .i64 T.slots, .slice (some ada) T.order.length cO, .slice (some adb) T.lens.length cL, .slice (some adz) T.firsts.length cF]])) (fun vi _ => T.order.length - (intOf vi).toNat)
  case atStart => exact ⟨0,none,0,none,0,none,0,rfl,by omega,by rw [cutOf_zero,cutOf_zero,cutOf_zero];exact HS⟩
  case round =>
    clear HS
    obtain ⟨k,O1,Oc,L1,Lc,F1,Fc,rfl,hk,hS⟩ := hrel
    replace hS := hS.out
    have c2 : wr.cell? ⟨w.heap.size,2,none⟩ = some (.slice (some ada) T.order.length cO) := (Now.blk (pre:=[_,_,_,_,_]) hS).cell 2
    by_cases hlt : k < T.order.length
    · have hki : (k : Int) < (T.order.length : Int) := by omega
      have hk16 : k ≤ 16 := by have := HMN.out;omega
      by_cases hki2 : k = i
      · subst hki2
        have hq : ((k : Int) == (k : Int)) = true := by simp
        go_wp2_with fail
        go_roundw
        case rel => exact ⟨k + 1,O1,Oc,L1,Lc,F1,Fc,by go_num,by omega,Lib.hid (by rw [cutOf_skip,cutOf_skip,cutOf_skip];exact hS)⟩
        case measure => simp [intOf] <;> omega
      · have hq : ((k : Int) == (i : Int)) = false := beq_eq_false_iff_ne.2 (by omega)
        have hq2 : ¬ (k : Int) = (i : Int) := by omega
        obtain ⟨xa,hxa⟩ : ∃ x,T.order[k]? = some x := ⟨_,List.getElem?_eq_getElem hlt⟩
        obtain ⟨xb,hxb⟩ : ∃ x,T.lens[k]? = some x := ⟨_,List.getElem?_eq_getElem (by rw [HL.out];exact hlt)⟩
        obtain ⟨xz,hxz⟩ : ∃ x,T.firsts[k]? = some x := ⟨_,List.getElem?_eq_getElem (by rw [HF.out];exact hlt)⟩
        obtain ⟨_,e1,hd1,ca⟩ := read_cell (u := .int .i64 xa) HTI.out.o hlt (by rw [List.getElem?_map,hxa];rfl)
        cases e1
        obtain ⟨_,e1,hd2,cb⟩ := read_cell (k := k) (u := .int .i64 xb) HTI.out.l (by rw [HL.out];exact hlt) (by rw [List.getElem?_map,hxb];rfl)
        cases e1
        obtain ⟨_,e1,hd3,cd⟩ := read_cell (k := k) (u := .int .u64 xz) HTI.out.f (by rw [HF.out];exact hlt) (by rw [List.getElem?_map,hxz];rfl)
        cases e1
        have hki3 : (k : Int) < (T.lens.length : Int) := by rw [HL.out];exact hki
        have hki4 : (k : Int) < (T.firsts.length : Int) := by rw [HF.out];exact hki
        have HCO := Lib.hid ca
        have HCL := Lib.hid cb
        have HCF := Lib.hid cd
        have HDO := Lib.hid hd1
        have HDL := Lib.hid hd2
        have HDF := Lib.hid hd3
        have l1 := cutOf_len T.order i k
        have l2 := cutOf_len T.lens i k
        have l3 := cutOf_len T.firsts i k
        have nO : (cutOf T.order i k).length + 1 ≤ maxLen := by unfold maxLen;omega
        have nL : (cutOf T.lens i k).length + 1 ≤ maxLen := by unfold maxLen;omega
        have nF : (cutOf T.firsts i k).length + 1 ≤ maxLen := by unfold maxLen;omega
        have mO : ((cutOf T.order i k).length + 1) * 8 ≤ 140737488355328 := by omega
        have mL : ((cutOf T.lens i k).length + 1) * 8 ≤ 140737488355328 := by omega
        have mF : ((cutOf T.firsts i k).length + 1) * 8 ≤ 140737488355328 := by omega
        have q1 := cutOf_more T.order i k hxa hki2
        have q2 := cutOf_more T.lens i k hxb hki2
        have q3 := cutOf_more T.firsts i k hxz hki2
        have Q1 := Lib.hid q1
        have Q2 := Lib.hid q2
        have Q3 := Lib.hid q3
        clear l1 l2 l3 ca cb cd hd1 hd2 hd3 q1 q2 q3 hxa hxb hxz
        go_wp2_with fail
        clear c2
        replace hS := hS.drew
        have hcell : ∀ w1 : World,((w.heap.size ≤ wr.drew.heap.size → Below w.heap.size wr.drew w1) ∧ ((y < wr.drew.heap.size → w1.heap[y]? = wr.drew.heap[y]? ∧ wr.drew.heap.size ≤ w1.heap.size) ∧ (w.heap.size < wr.drew.heap.size → w1.heap[w.heap.size]? = wr.drew.heap[w.heap.size]? ∧ wr.drew.heap.size ≤ w1.heap.size))) → w1.cell? ⟨y,2,none⟩ = some (.slice O1 (cutOf T.order i k).length Oc) ∧ w1.cell? ⟨w.heap.size,2,none⟩ = some (.slice (some ada) T.order.length cO) ∧ w1.cell? (ada.add k) = some (.int .i64 xa) := fun w1 h1 => by
          have hb1 := (h1.2.1 (Now.blk (pre:=[]) hS).lt).1.trans (Now.blk (pre:=[]) hS)
          have hb2 := (h1.2.2 (Now.blk (pre:=[_,_,_,_,_]) hS).lt).1.trans (Now.blk (pre:=[_,_,_,_,_]) hS)
          have hb3 := (Sep.base hS).trans (h1.1 (Sep.base hS).size)
          exact ⟨Blk.cell (w := w1) (cs := #[.int .i64 T.segs, .int .i64 T.slots,(.slice O1 (cutOf T.order i k).length Oc),(.slice L1 (cutOf T.lens i k).length Lc),(.slice F1 (cutOf T.firsts i k).length Fc)]) hb1 2,Blk.cell (w := w1) (cs := #[.int .i64 T.segs, .int .i64 T.slots, .slice (some ada) T.order.length cO, .slice (some adb) T.lens.length cL, .slice (some adz) T.firsts.length cF]) hb2 2,(hb3.cell (p := ada.add k) (by rw [block_of_add];exact HDO.out)).trans HCO.out⟩
        refine wp_region_takes ((KeepB.grow w.heap.size).and ((KeepG.grow y).and (KeepG.grow w.heap.size))) [10] [(0,false),(1,false),(2,false),(3,false),(4,false),(5,false),(6,false)] 4 (by kernel_rfl) (by kernel_rfl) rfl (by kernel_rfl) (by intro _ _ d _ _ h;cases d <;> exact h) ?_
        iterate 7
          (apply wpTakes_take
           · exact rfl
           · intro w1v hR1
             (obtain ⟨d1,d2,d3⟩ := hcell w1v hR1)
             go_simp
             first
               | with_reducible exact ⟨rfl,sqN _⟩
           simp only [Act.put,sqA,sqB,sqC])
        refine wpTakes_done ?_
        clear hcell
        generalize wr.drew = wd at hS ⊢
        refine wpAnyE_fork [7] (by kernel_rfl) (by simp) ?_
        refine sqM ?_
        refine ⟨_,rfl,?_⟩
        intro w1 h1 K hK
        have hSn := Now.pushCells (Now.below hS h1) 3 #[.int .i64 xa]
        go_simp
        refine hK _ _ (fun _ => (((KeepB.grow w.heap.size).and ((KeepG.grow y).and (KeepG.grow w.heap.size)))).sub _ _ ((Newer.refl w1).alloc _)) ?_
        replace hS := hSn
        clear hSn hK K h1
        try simp only [Act.put,sqA,sqB,sqC]
        generalize w1.alloc (.cells #[.int .i64 xa] 3) = we at hS ⊢
        generalize w1.heap.size = kb at hS ⊢
        clear w1
        refine wpAnyE_fork [8] (by kernel_rfl) (by simp) ?_
        refine sqM ?_
        refine ⟨_,rfl,?_⟩
        intro w1 h1 K hK
        replace hS := Now.below hS h1
        refine wp_app_now _ _ 51 3 rfl Tryz.underlying51 hi0 hz0 hz1 hz2 rfl (pre:=[_,_]) hS (Now.blk (pre:=[]) hS) rfl rfl rfl nO mO ?_
        intro Og Ocap wf hz hS2
        refine hK _ _ (fun _ => ⟨fun _ => below_of (Sep.base hS) (Sep.base hS2) hz,fun _ => ⟨(Now.blk (pre:=[_]) hS2).trans (Now.blk (pre:=[_]) hS).symm,hz⟩,fun _ => ⟨(Now.blk (pre:=[_,_,_,_,_,_]) hS2).trans (Now.blk (pre:=[_,_,_,_,_,_]) hS).symm,hz⟩⟩) ?_
        replace hS := hS2
        clear hS2 hz hK K h1
        try simp only [Act.put,sqA,sqB,sqC]
        clear w1
        apply wpAnyE_pure ((KeepB.grow w.heap.size).and ((KeepG.grow y).and (KeepG.grow w.heap.size))) 9
        · kernel_rfl
        · intro _ _ d _ _ h;cases d <;> exact h
        · exact rfl
        · kernel_rfl
        · intro w1
          go_simp
          exact ⟨rfl,sqN _⟩
        try simp only [Act.put,sqA,sqB,sqC]
        refine wpAnyE_fork [10] (by kernel_rfl) (by simp) ?_
        refine sqM ?_
        refine ⟨_,rfl,?_⟩
        intro w1 h1 K hK
        replace hS := Now.below hS h1
        have b2 : _ = some (Value.slice O1 (cutOf T.order i k).length Oc) := (Now.blk (pre:=[_]) hS).cell 2
        have f2 := (Now.blk (pre:=[_]) hS).frozen 2
        go_simp
        refine hK _ _ (fun h => absurd (by simp) h) ?_
        have hS2 := Now.drop (pre:=[]) (Now.set_ (pre:=[_]) hS 2 (.slice (some ⟨Og,0,none⟩) ((cutOf T.order i k).length + 1) Ocap))
        clear hK K h1 hS b2 f2
        try simp only [Act.put,sqA,sqB,sqC]
        generalize w1.setCell ⟨y,2,none⟩ (.slice (some ⟨Og,0,none⟩) ((cutOf T.order i k).length + 1) Ocap) = wg at hS2 ⊢
        clear w1
        refine wpAnyE_end (by kernel_rfl) fun wz0 hz0 => ?_
        have hS := Now.below hS2 hz0
        clear hz0 hS2
        go_wp2_with fail
        replace hS := hS.drew
        have hcell : ∀ w1 : World,((w.heap.size ≤ wz0.drew.heap.size → Below w.heap.size wz0.drew w1) ∧ ((y < wz0.drew.heap.size → w1.heap[y]? = wz0.drew.heap[y]? ∧ wz0.drew.heap.size ≤ w1.heap.size) ∧ (w.heap.size < wz0.drew.heap.size → w1.heap[w.heap.size]? = wz0.drew.heap[w.heap.size]? ∧ wz0.drew.heap.size ≤ w1.heap.size))) → w1.cell? ⟨y,3,none⟩ = some (.slice L1 (cutOf T.lens i k).length Lc) ∧ w1.cell? ⟨w.heap.size,3,none⟩ = some (.slice (some adb) T.lens.length cL) ∧ w1.cell? (adb.add k) = some (.int .i64 xb) := fun w1 h1 => by
          have hb1 := (h1.2.1 (Now.blk (pre:=[]) hS).lt).1.trans (Now.blk (pre:=[]) hS)
          have hb2 := (h1.2.2 (Now.blk (pre:=[_,_,_,_,_]) hS).lt).1.trans (Now.blk (pre:=[_,_,_,_,_]) hS)
          have hb3 := (Sep.base hS).trans (h1.1 (Sep.base hS).size)
          exact ⟨Blk.cell (w := w1) (cs := #[.int .i64 T.segs, .int .i64 T.slots,(.slice (some ⟨Og,0,none⟩) ((cutOf T.order i k).length + 1) Ocap),(.slice L1 (cutOf T.lens i k).length Lc),(.slice F1 (cutOf T.firsts i k).length Fc)]) hb1 3,Blk.cell (w := w1) (cs := #[.int .i64 T.segs, .int .i64 T.slots, .slice (some ada) T.order.length cO, .slice (some adb) T.lens.length cL, .slice (some adz) T.firsts.length cF]) hb2 3,(hb3.cell (p := adb.add k) (by rw [block_of_add];exact HDL.out)).trans HCL.out⟩
        refine wp_region_takes ((KeepB.grow w.heap.size).and ((KeepG.grow y).and (KeepG.grow w.heap.size))) [10] [(0,false),(1,false),(2,false),(3,false),(4,false),(5,false),(6,false)] 4 (by kernel_rfl) (by kernel_rfl) rfl (by kernel_rfl) (by intro _ _ d _ _ h;cases d <;> exact h) ?_
        iterate 7
          (apply wpTakes_take
           · exact rfl
           · intro w1v hR1
             (obtain ⟨d1,d2,d3⟩ := hcell w1v hR1)
             go_simp
             first
               | with_reducible exact ⟨rfl,sqN _⟩
           simp only [Act.put,sqA,sqB,sqC])
        refine wpTakes_done ?_
        clear hcell
        generalize wz0.drew = wd at hS ⊢
        refine wpAnyE_fork [7] (by kernel_rfl) (by simp) ?_
        refine sqM ?_
        refine ⟨_,rfl,?_⟩
        intro w1 h1 K hK
        have hSn := Now.pushCells (Now.below hS h1) 3 #[.int .i64 xb]
        go_simp
        refine hK _ _ (fun _ => (((KeepB.grow w.heap.size).and ((KeepG.grow y).and (KeepG.grow w.heap.size)))).sub _ _ ((Newer.refl w1).alloc _)) ?_
        replace hS := hSn
        clear hSn hK K h1
        try simp only [Act.put,sqA,sqB,sqC]
        generalize w1.alloc (.cells #[.int .i64 xb] 3) = we at hS ⊢
        generalize w1.heap.size = kb at hS ⊢
        clear w1
        refine wpAnyE_fork [8] (by kernel_rfl) (by simp) ?_
        refine sqM ?_
        refine ⟨_,rfl,?_⟩
        intro w1 h1 K hK
        replace hS := Now.below hS h1
        refine wp_app_now _ _ 51 3 rfl Tryz.underlying51 hi0 hz0 hz1 hz2 rfl (pre:=[_,_,_]) hS (Now.blk (pre:=[]) hS) rfl rfl rfl nL mL ?_
        intro Lg Lcap wf hz hS2
        refine hK _ _ (fun _ => ⟨fun _ => below_of (Sep.base hS) (Sep.base hS2) hz,fun _ => ⟨(Now.blk (pre:=[_]) hS2).trans (Now.blk (pre:=[_]) hS).symm,hz⟩,fun _ => ⟨(Now.blk (pre:=[_,_,_,_,_,_]) hS2).trans (Now.blk (pre:=[_,_,_,_,_,_]) hS).symm,hz⟩⟩) ?_
        replace hS := hS2
        clear hS2 hz hK K h1
        try simp only [Act.put,sqA,sqB,sqC]
        clear w1
        apply wpAnyE_pure ((KeepB.grow w.heap.size).and ((KeepG.grow y).and (KeepG.grow w.heap.size))) 9
        · kernel_rfl
        · intro _ _ d _ _ h;cases d <;> exact h
        · exact rfl
        · kernel_rfl
        · intro w1
          go_simp
          exact ⟨rfl,sqN _⟩
        try simp only [Act.put,sqA,sqB,sqC]
        refine wpAnyE_fork [10] (by kernel_rfl) (by simp) ?_
        refine sqM ?_
        refine ⟨_,rfl,?_⟩
        intro w1 h1 K hK
        replace hS := Now.below hS h1
        have b2 : _ = some (Value.slice L1 (cutOf T.lens i k).length Lc) := (Now.blk (pre:=[_]) hS).cell 3
        have f2 := (Now.blk (pre:=[_]) hS).frozen 3
        go_simp
        refine hK _ _ (fun h => absurd (by simp) h) ?_
        have hS2 := Now.drop (pre:=[]) (Now.set_ (pre:=[_]) hS 3 (.slice (some ⟨Lg,0,none⟩) ((cutOf T.lens i k).length + 1) Lcap))
        clear hK K h1 hS b2 f2
        try simp only [Act.put,sqA,sqB,sqC]
        generalize w1.setCell ⟨y,3,none⟩ (.slice (some ⟨Lg,0,none⟩) ((cutOf T.lens i k).length + 1) Lcap) = wg at hS2 ⊢
        clear w1
        refine wpAnyE_end (by kernel_rfl) fun wz1 hz1 => ?_
        have hS := Now.below hS2 hz1
        clear hz1 hS2
        go_wp2_with fail
        replace hS := hS.drew
        have hcell : ∀ w1 : World,((w.heap.size ≤ wz1.drew.heap.size → Below w.heap.size wz1.drew w1) ∧ ((y < wz1.drew.heap.size → w1.heap[y]? = wz1.drew.heap[y]? ∧ wz1.drew.heap.size ≤ w1.heap.size) ∧ (w.heap.size < wz1.drew.heap.size → w1.heap[w.heap.size]? = wz1.drew.heap[w.heap.size]? ∧ wz1.drew.heap.size ≤ w1.heap.size))) → w1.cell? ⟨y,4,none⟩ = some (.slice F1 (cutOf T.firsts i k).length Fc) ∧ w1.cell? ⟨w.heap.size,4,none⟩ = some (.slice (some adz) T.firsts.length cF) ∧ w1.cell? (adz.add k) = some (.int .u64 xz) := fun w1 h1 => by
          have hb1 := (h1.2.1 (Now.blk (pre:=[]) hS).lt).1.trans (Now.blk (pre:=[]) hS)
          have hb2 := (h1.2.2 (Now.blk (pre:=[_,_,_,_,_]) hS).lt).1.trans (Now.blk (pre:=[_,_,_,_,_]) hS)
          have hb3 := (Sep.base hS).trans (h1.1 (Sep.base hS).size)
          exact ⟨Blk.cell (w := w1) (cs := #[.int .i64 T.segs, .int .i64 T.slots,(.slice (some ⟨Og,0,none⟩) ((cutOf T.order i k).length + 1) Ocap),(.slice (some ⟨Lg,0,none⟩) ((cutOf T.lens i k).length + 1) Lcap),(.slice F1 (cutOf T.firsts i k).length Fc)]) hb1 4,Blk.cell (w := w1) (cs := #[.int .i64 T.segs, .int .i64 T.slots, .slice (some ada) T.order.length cO, .slice (some adb) T.lens.length cL, .slice (some adz) T.firsts.length cF]) hb2 4,(hb3.cell (p := adz.add k) (by rw [block_of_add];exact HDF.out)).trans HCF.out⟩
        refine wp_region_takes ((KeepB.grow w.heap.size).and ((KeepG.grow y).and (KeepG.grow w.heap.size))) [10] [(0,false),(1,false),(2,false),(3,false),(4,false),(5,false),(6,false)] 4 (by kernel_rfl) (by kernel_rfl) rfl (by kernel_rfl) (by intro _ _ d _ _ h;cases d <;> exact h) ?_
        iterate 7
          (apply wpTakes_take
           · exact rfl
           · intro w1v hR1
             (obtain ⟨d1,d2,d3⟩ := hcell w1v hR1)
             go_simp
             first
               | with_reducible exact ⟨rfl,sqN _⟩
           simp only [Act.put,sqA,sqB,sqC])
        refine wpTakes_done ?_
        clear hcell
        generalize wz1.drew = wd at hS ⊢
        refine wpAnyE_fork [7] (by kernel_rfl) (by simp) ?_
        refine sqM ?_
        refine ⟨_,rfl,?_⟩
        intro w1 h1 K hK
        have hSn := Now.pushCells (Now.below hS h1) 43 #[.int .u64 xz]
        go_simp
        refine hK _ _ (fun _ => (((KeepB.grow w.heap.size).and ((KeepG.grow y).and (KeepG.grow w.heap.size)))).sub _ _ ((Newer.refl w1).alloc _)) ?_
        replace hS := hSn
        clear hSn hK K h1
        try simp only [Act.put,sqA,sqB,sqC]
        generalize w1.alloc (.cells #[.int .u64 xz] 43) = we at hS ⊢
        generalize w1.heap.size = kb at hS ⊢
        clear w1
        refine wpAnyE_fork [8] (by kernel_rfl) (by simp) ?_
        refine sqM ?_
        refine ⟨_,rfl,?_⟩
        intro w1 h1 K hK
        replace hS := Now.below hS h1
        refine wp_app_now _ _ 62 43 rfl Tryz.underlying62 hj0 hy0 hy1 hy2 rfl (pre:=[_,_,_,_]) hS (Now.blk (pre:=[]) hS) rfl rfl rfl nF mF ?_
        intro Fg Fcap wf hz hS2
        refine hK _ _ (fun _ => ⟨fun _ => below_of (Sep.base hS) (Sep.base hS2) hz,fun _ => ⟨(Now.blk (pre:=[_]) hS2).trans (Now.blk (pre:=[_]) hS).symm,hz⟩,fun _ => ⟨(Now.blk (pre:=[_,_,_,_,_,_]) hS2).trans (Now.blk (pre:=[_,_,_,_,_,_]) hS).symm,hz⟩⟩) ?_
        replace hS := hS2
        clear hS2 hz hK K h1
        try simp only [Act.put,sqA,sqB,sqC]
        clear w1
        apply wpAnyE_pure ((KeepB.grow w.heap.size).and ((KeepG.grow y).and (KeepG.grow w.heap.size))) 9
        · kernel_rfl
        · intro _ _ d _ _ h;cases d <;> exact h
        · exact rfl
        · kernel_rfl
        · intro w1
          go_simp
          exact ⟨rfl,sqN _⟩
        try simp only [Act.put,sqA,sqB,sqC]
        refine wpAnyE_fork [10] (by kernel_rfl) (by simp) ?_
        refine sqM ?_
        refine ⟨_,rfl,?_⟩
        intro w1 h1 K hK
        replace hS := Now.below hS h1
        have b2 : _ = some (Value.slice F1 (cutOf T.firsts i k).length Fc) := (Now.blk (pre:=[_]) hS).cell 4
        have f2 := (Now.blk (pre:=[_]) hS).frozen 4
        go_simp
        refine hK _ _ (fun h => absurd (by simp) h) ?_
        have hS2 := Now.drop (pre:=[]) (Now.set_ (pre:=[_]) hS 4 (.slice (some ⟨Fg,0,none⟩) ((cutOf T.firsts i k).length + 1) Fcap))
        clear hK K h1 hS b2 f2
        try simp only [Act.put,sqA,sqB,sqC]
        generalize w1.setCell ⟨y,4,none⟩ (.slice (some ⟨Fg,0,none⟩) ((cutOf T.firsts i k).length + 1) Fcap) = wg at hS2 ⊢
        clear w1
        refine wpAnyE_end (by kernel_rfl) fun wz2 hz2 => ?_
        have hS := Now.below hS2 hz2
        clear hz2 hS2
        go_wp2_with fail
        go_roundw
        case rel =>
          refine ⟨k + 1,some ⟨Og,0,none⟩,Ocap,some ⟨Lg,0,none⟩,Lcap,some ⟨Fg,0,none⟩,Fcap,by go_num,by omega,Lib.hid ?_⟩
          rw [Q1.out,Q2.out,Q3.out,List.length_append,List.length_append,List.length_append]
          unfold ints u64s
          rw [List.map_append,List.map_append,List.map_append]
          exact hS
        case measure => simp [intOf] <;> omega
    · obtain rfl : k = T.order.length := by omega
      have hki : ¬ ((T.order.length : Nat) : Int) < (T.order.length : Int) := by omega
      have e1 : cutOf T.order i T.order.length = (T.drop i).order := cutOf_all _ _
      have e2 : cutOf T.lens i T.order.length = (T.drop i).lens := by rw [← HL.out];exact cutOf_all _ _
      have e3 : cutOf T.firsts i T.order.length = (T.drop i).firsts := by rw [← HF.out];exact cutOf_all _ _
      rw [e1,e2,e3] at hS
      have hyb := Now.blk (pre:=[]) hS
      have d0 : wr.cell? ⟨y,0,none⟩ = some (Value.int .i64 T.segs) := hyb.cell 0
      have d1 : wr.cell? ⟨y,1,none⟩ = some (Value.int .i64 T.slots) := hyb.cell 1
      have d2 : wr.cell? ⟨y,2,none⟩ = some (Value.slice O1 (T.drop i).order.length Oc) := hyb.cell 2
      have d3 : wr.cell? ⟨y,3,none⟩ = some (Value.slice L1 (T.drop i).lens.length Lc) := hyb.cell 3
      have d4 : wr.cell? ⟨y,4,none⟩ = some (Value.slice F1 (T.drop i).firsts.length Fc) := hyb.cell 4
      have hr := Now.blk (pre:=[_,_,_,_]) hS
      have fr := fun k => hr.frozen k
      have r0 : wr.cell? ⟨w.heap.size + 1,0,none⟩ = some (Value.int .i64 0) := hr.cell 0
      have r1 : wr.cell? ⟨w.heap.size + 1,1,none⟩ = some (Value.int .i64 0) := hr.cell 1
      have r2 : wr.cell? ⟨w.heap.size + 1,2,none⟩ = some (Value.slice none 0 0) := hr.cell 2
      have r3 : wr.cell? ⟨w.heap.size + 1,3,none⟩ = some (Value.slice none 0 0) := hr.cell 3
      have r4 : wr.cell? ⟨w.heap.size + 1,4,none⟩ = some (Value.slice none 0 0) := hr.cell 4
      have hS2 := Lib.hid (Now.set5 (pre:=[_,_,_,_]) hS (.int .i64 T.segs) (.int .i64 T.slots) (.slice O1 (T.drop i).order.length Oc) (.slice L1 (T.drop i).lens.length Lc) (.slice F1 (T.drop i).firsts.length Fc))
      clear hyb hr hS e1 e2 e3
      go_wp2_with fail
      refine bodyPost_ret (v := .tuple #[.agg #[.int .i64 T.segs, .int .i64 T.slots, .slice O1 (T.drop i).order.length Oc, .slice L1 (T.drop i).lens.length Lc, .slice F1 (T.drop i).firsts.length Fc], .int .i64 0]) ?_ rfl ⟨O1,Oc,L1,Lc,F1,Fc,rfl,Now.drop (pre:=[_,_,_]) (Now.drop (pre:=[_,_,_]) (Now.drop (pre:=[]) hS2.out))⟩
      exact results_row_tmp rfl _ _ _ _ _ _ _ (by simp) (by simp) (Now.blk (pre:=[_,_,_,_]) hS2.out) Tryz.underlying71 rfl (by kernel_rfl)
end Go.Proofs.YtidacaihmjdmkaaGreat
namespace Go.Proofs.YtidacaihmjdmkaaGreat
open Go.RowKit
attribute [local go_sem high] run_mx run_mn
set_option maxHeartbeats 8000000 in
theorem RLDrop_any {s : LSt} (hs : s.Ok) (r : RDsk) (hRl : Rel s.d r) (g gd : Nat) (epoch : Int) (he : 0 ≤ epoch ∧ epoch < 4294967296) (seg ver : Int) (hv : 0 ≤ ver ∧ ver < 18446744073709551616) (AO : Option Addr) (cO : Nat) (AL : Option Addr) (cL : Nat) (AF : Option Addr) (cF : Nat)
    {S0 : Nat → Prop} {w0 w : World} {L : List Thing} (hS : Now S0 w0 w (rlogParts g gd s.T AO cO AL cL AF cF s.lsn epoch s.gen r ++ L)) :
    Calls Tryz.prog 64 #[.pointer (some ⟨g,0,none⟩), .int .i64 seg, .int .u64 ver] w fun e w' => e = .returned (.int .i64 (s.drop epoch seg ver).1) ∧ GotR S0 w0 w' (s.drop epoch seg ver).2 g gd epoch L := by
  obtain ⟨T,lsn,gen,d⟩ := s
  have hT : T.Ok := hs.t
  unfold LSt.drop
  dsimp only at hS ⊢
  have hlog := Now.blk (pre:=[]) hS
  have c1 : _ = some (Value.int .i64 T.segs) := hlog.cell 1
  have c2 : _ = some (Value.int .i64 T.slots) := hlog.cell 2
  have c3 : _ = some (Value.slice AO T.order.length cO) := hlog.cell 3
  have c4 : _ = some (Value.slice AL T.lens.length cL) := hlog.cell 4
  have c5 : _ = some (Value.slice AF T.firsts.length cF) := hlog.cell 5
  by_cases hb : idx T.order seg < 0 ∨ idx T.order seg = (T.order.length - 1 : Nat)
  · rw [if_pos hb]
    have hd := RDrop_bad T hT AO cO AL cL AF cF seg hb w (tabIn_of (pre:=[_]) hS)
    clear hlog hb
    go_enter Tryz.func64,Tryz.ntmps64
    go_wp2_with (go_at_call 124;(with_reducible refine hd.mono ?_);rintro e w1 ⟨rfl,hB⟩;replace hS := Now.alloc (Now.below hS hB) (.cells #[.int .i64 0, .int .i64 0, .slice none 0 0, .slice none 0 0, .slice none 0 0] 71);clear hd hB c1 c2 c3 c4 c5)
    go_ret
    exact ⟨rfl,r,_,_,_,_,_,_,hRl,hS⟩
  · rw [if_neg hb]
    obtain ⟨h1,h2⟩ := drop_place (s := ⟨T,lsn,gen,d⟩) hT hb
    obtain ⟨i,hi⟩ : ∃ i,(idx T.order seg).toNat = i := ⟨_,rfl⟩
    dsimp only at h1 h2
    rw [hi] at h1 h2 ⊢
    have hd := RDrop_ok T hT AO cO AL cL AF cF seg i h2 h1 w (tabIn_of (pre:=[_]) hS)
    have hok2 : LSt.Ok ⟨T.drop i,lsn,gen,d⟩ := ⟨T.drop_ok hT i h1,hs.lsn,hs.gen,hs.pend⟩
    have hck := fun B1 l1 B2 l2 B3 l3 L' v (h : Now S0 w0 v (rlogParts g gd (T.drop i) B1 l1 B2 l2 B3 l3 lsn epoch gen r ++ L')) => RCk_any hok2 r hRl g gd epoch he ver hv B1 l1 B2 l2 B3 l3 h
    obtain ⟨ce,cs,hce⟩ : ∃ ce cs,LSt.ck ⟨T.drop i,lsn,gen,d⟩ epoch ver = (ce,cs) := ⟨_,_,rfl⟩
    rw [hce]
    simp only [hce] at hck
    clear hlog hb h1 h2 hi hce
    go_enter Tryz.func64,Tryz.ntmps64
    go_wp2_with (first
      | (go_at_call 124;(refine hd.mono ?_);rintro e w1 ⟨B1,l1,B2,l2,B3,l3,rfl,hO⟩;replace hS := Now.pushAll hS hO;clear hd hO c1 c2 c3 c4 c5;have hlog := Now.blk (pre:=[_,_,_]) hS;have c1 : w1.cell? ⟨g,1,none⟩ = some (Value.int .i64 T.segs) := hlog.cell 1;have c2 : w1.cell? ⟨g,2,none⟩ = some (Value.int .i64 T.slots) := hlog.cell 2;have c3 : w1.cell? ⟨g,3,none⟩ = some (Value.slice AO T.order.length cO) := hlog.cell 3;have c4 : w1.cell? ⟨g,4,none⟩ = some (Value.slice AL T.lens.length cL) := hlog.cell 4;have c5 : w1.cell? ⟨g,5,none⟩ = some (Value.slice AF T.firsts.length cF) := hlog.cell 5;have fl := fun k => hlog.frozen k;have hlt := hlog.lt;have hne := Nat.ne_of_lt hlt;clear hlog;replace hS := Now.front (pre:=[_,_,_]) (Now.drop (pre:=[_,_,_,_]) (Now.drop (pre:=[_,_,_,_]) (Now.drop (pre:=[_,_,_,_]) (Now.set_ (pre:=[_,_,_]) (Now.set_ (pre:=[_,_,_]) (Now.set_ (pre:=[_,_,_]) (Now.set_ (pre:=[_,_,_]) (Now.set_ (pre:=[_,_,_]) hS 1 (.int .i64 (T.drop i).segs)) 2 (.int .i64 (T.drop i).slots)) 3 (.slice B1 (T.drop i).order.length l1)) 4 (.slice B2 (T.drop i).lens.length l2)) 5 (.slice B3 (T.drop i).firsts.length l3)))));replace hS := Now.alloc hS (.cells #[.int .i64 (T.drop i).segs, .int .i64 (T.drop i).slots, .slice B1 (T.drop i).order.length l1, .slice B2 (T.drop i).lens.length l2, .slice B3 (T.drop i).firsts.length l3] 71);replace hS : Hid (Now S0 w0 _ (rlogParts g gd (T.drop i) B1 l1 B2 l2 B3 l3 lsn epoch gen r ++ L)) := Lib.hid hS)
      | (go_at_call 62;have h' := hck B1 l1 B2 l2 B3 l3 L _ hS.out;(with_reducible refine h'.mono ?_);clear h' hck hS;rintro e w2 ⟨rfl,hG⟩))
    go_ret
    exact ⟨rfl,hG⟩
end Go.Proofs.YtidacaihmjdmkaaGreat
namespace Go.Proofs.YtidacaihmjdmkaaGreat
open Go.RowKit
attribute [local go_sem high] run_mx run_mn
theorem loc_end {fn : Func} {pl p : Tmp} {v : World} {R : Ending → World → Prop} {ql : Nat} {x y1 y2 : Int} {a : Act} {S0 : Nat → Prop} {w0 : World} {pre post : List Thing} (hf : fn.results = #[.cell pl 90, .tmp p])
    (h : Now S0 w0 v (pre ++ Thing.cells ql 90 #[.int .i64 y1, .int .i64 y2] :: post)) (hd : a.defers = []) (hp : a.tmps.getD p undef = .int .i64 x) (hpl : a.tmps.getD pl undef = .pointer (some ⟨ql,0,none⟩))
    (hR : Now S0 w0 v (pre ++ post) → R (.returned (.tuple #[.agg #[.int .i64 y1, .int .i64 y2], .int .i64 x])) v) : bodyPost Tryz.prog fn R .ret a v := by
  exact bodyPost_ret (results_row_tmp (P := Tryz.prog) hf a.tmps v ql 90 #[.int .i64 y1, .int .i64 y2] _ _ hpl hp (Now.blk h) Tryz.underlying90 rfl (by kernel_rfl)) hd (hR (Now.drop h))
set_option maxHeartbeats 8000000 in
theorem RApp_form (s : LSt) (hs : s.Ok) (r : RDsk) (hRl : Rel s.d r) (g gd : Nat) (epoch : Int) (rc : Rec) (hF : (s.recOf epoch rc).Fits) (hbad : rc.kind = 3 ∨ (s.recOf epoch rc).right = false) (AO : Option Addr) (cO : Nat) (AL : Option Addr) (cL : Nat) (AF : Option Addr) (cF : Nat)
    {S0 : Nat → Prop} {w0 w : World} {L : List Thing} (hS : Now S0 w0 w (rlogParts g gd s.T AO cO AL cL AF cF s.lsn epoch s.gen r ++ L)) :
    Calls Tryz.prog 67 #[.pointer (some ⟨g,0,none⟩),rc.value] w fun e w' => e = .returned (.tuple #[.agg #[.int .i64 0, .int .i64 0], .int .i64 5]) ∧ GotR S0 w0 w' s g gd epoch L := by
  obtain ⟨T,lsn,gen,d⟩ := s
  obtain ⟨r0,r1,r2,r3,r4,r5,r6⟩ := rc
  have hT : T.Ok := hs.t
  have hRl : Rel d r := hRl
  have hgw : g < w.heap.size := (Now.blk (pre:=[]) hS).lt
  have c6 : w.cell? ⟨g,6,none⟩ = some (.int .u64 lsn) := (Now.blk (pre:=[]) hS).cell 6
  have c7 : w.cell? ⟨g,7,none⟩ = some (.int .u32 epoch) := (Now.blk (pre:=[]) hS).cell 7
  have hne1 : g ≠ w.heap.size := Nat.ne_of_lt hgw
  have hne2 : g ≠ w.heap.size + 1 := by omega
  have hS1 : Now S0 w0 ((w.alloc (.cells #[.int .u64 lsn, .int .u32 epoch, .int .i64 r2, .int .u64 r3, .int .u64 r4, .string r5, .string r6] 118)).alloc (.cells #[.int .i64 0, .int .i64 0] 90)) (rlogParts g gd T AO cO AL cL AF cF lsn epoch gen r ++ (Thing.cells (w.heap.size + 1) 90 #[.int .i64 0, .int .i64 0] :: Thing.cells w.heap.size 118 #[.int .u64 lsn, .int .u32 epoch, .int .i64 r2, .int .u64 r3, .int .u64 r4, .string r5, .string r6] :: L)) := by
    have h1 := Now.pushCells (Now.pushCells hS 118 #[.int .u64 lsn, .int .u32 epoch, .int .i64 r2, .int .u64 r3, .int .u64 r4, .string r5, .string r6]) 90 #[.int .i64 0, .int .i64 0]
    simp only [World.size_alloc] at h1
    exact Now.perm h1 (List.perm_append_comm_assoc [_,_] (rlogParts g gd T AO cO AL cL AF cF lsn epoch gen r) L)
  have hRt := fun v => RRight_any _ hF v
  unfold Rec.value at hRt ⊢
  unfold LSt.recOf at *
  dsimp only at *
  have hend : ∀ v,Now S0 w0 v (rlogParts g gd T AO cO AL cL AF cF lsn epoch gen r ++ (Thing.cells w.heap.size 118 #[.int .u64 lsn, .int .u32 epoch, .int .i64 r2, .int .u64 r3, .int .u64 r4, .string r5, .string r6] :: L)) → GotR S0 w0 v ⟨T,lsn,gen,d⟩ g gd epoch L := fun v h => ⟨r,AO,cO,AL,cL,AF,cF,hRl,Now.drop (pre:=[_,_,_,_,_]) h⟩
  by_cases h3 : r2 = 3
  · subst h3
    clear hRt hF hs hbad hS
    have hS2 := Now.set_ (pre:=[_,_,_,_,_]) (Now.set_ (pre:=[_,_,_,_,_]) hS1 0 (.int .i64 0)) 1 (.int .i64 0)
    go_enter Tryz.func67,Tryz.ntmps67
    go_wp2_with fail
    exact loc_end (pre:=[_,_,_,_,_]) rfl hS1 rfl rfl rfl (fun h => ⟨rfl,hend _ h⟩)
  · have h3b : (r2 == 3) = false := beq_eq_false_iff_ne.2 h3
    rw [hbad.resolve_left h3] at hRt
    clear hF hs hbad hS
    go_enter Tryz.func67,Tryz.ntmps67
    go_wp2_with (go_at_call 125;(with_reducible refine (hRt _).mono ?_);rintro e w7 ⟨rfl,hB⟩;have hS := Now.below hS1 hB;have hrb := Now.blk (pre:=[_,_,_,_,_]) hS;have o0 : _ = some (Value.int .i64 0) := hrb.cell 0;have o1 : _ = some (Value.int .i64 0) := hrb.cell 1;have fo := fun k => hrb.frozen k;clear hrb hB hRt;replace hS := Lib.hid (Now.set_ (pre:=[_,_,_,_,_]) (Now.set_ (pre:=[_,_,_,_,_]) hS 0 (.int .i64 0)) 1 (.int .i64 0)))
    exact loc_end (pre:=[_,_,_,_,_]) rfl hS.out rfl rfl rfl (fun h => ⟨rfl,hend _ h⟩)
end Go.Proofs.YtidacaihmjdmkaaGreat
namespace Go.Proofs.YtidacaihmjdmkaaGreat
open Go.RowKit
attribute [local go_sem high] run_mx run_mn
set_option maxHeartbeats 8000000 in
theorem RApp_full (s : LSt) (hs : s.Ok) (r : RDsk) (hRl : Rel s.d r) (g gd : Nat) (epoch : Int) (rc : Rec) (hF : (s.recOf epoch rc).Fits) (hk : rc.kind ≠ 3) (hR : (s.recOf epoch rc).right = true) (hroom : s.T.room = 0) (AO : Option Addr) (cO : Nat) (AL : Option Addr) (cL : Nat) (AF : Option Addr) (cF : Nat)
    {S0 : Nat → Prop} {w0 w : World} {L : List Thing} (hS : Now S0 w0 w (rlogParts g gd s.T AO cO AL cL AF cF s.lsn epoch s.gen r ++ L)) :
    Calls Tryz.prog 67 #[.pointer (some ⟨g,0,none⟩),rc.value] w fun e w' => e = .returned (.tuple #[.agg #[.int .i64 0, .int .i64 0], .int .i64 10]) ∧ GotR S0 w0 w' s g gd epoch L := by
  obtain ⟨T,lsn,gen,d⟩ := s
  obtain ⟨r0,r1,r2,r3,r4,r5,r6⟩ := rc
  have hT : T.Ok := hs.t
  have hRl : Rel d r := hRl
  have hgw : g < w.heap.size := (Now.blk (pre:=[]) hS).lt
  have c6 : w.cell? ⟨g,6,none⟩ = some (.int .u64 lsn) := (Now.blk (pre:=[]) hS).cell 6
  have c7 : w.cell? ⟨g,7,none⟩ = some (.int .u32 epoch) := (Now.blk (pre:=[]) hS).cell 7
  have hne1 : g ≠ w.heap.size := Nat.ne_of_lt hgw
  have hne2 : g ≠ w.heap.size + 1 := by omega
  have hS1 : Now S0 w0 ((w.alloc (.cells #[.int .u64 lsn, .int .u32 epoch, .int .i64 r2, .int .u64 r3, .int .u64 r4, .string r5, .string r6] 118)).alloc (.cells #[.int .i64 0, .int .i64 0] 90)) (rlogParts g gd T AO cO AL cL AF cF lsn epoch gen r ++ (Thing.cells (w.heap.size + 1) 90 #[.int .i64 0, .int .i64 0] :: Thing.cells w.heap.size 118 #[.int .u64 lsn, .int .u32 epoch, .int .i64 r2, .int .u64 r3, .int .u64 r4, .string r5, .string r6] :: L)) := by
    have h1 := Now.pushCells (Now.pushCells hS 118 #[.int .u64 lsn, .int .u32 epoch, .int .i64 r2, .int .u64 r3, .int .u64 r4, .string r5, .string r6]) 90 #[.int .i64 0, .int .i64 0]
    simp only [World.size_alloc] at h1
    exact Now.perm h1 (List.perm_append_comm_assoc [_,_] (rlogParts g gd T AO cO AL cL AF cF lsn epoch gen r) L)
  have hRt := fun v => RRight_any _ hF v
  unfold Rec.value at hRt ⊢
  unfold LSt.recOf at *
  dsimp only at *
  obtain ⟨N,hNN⟩ : ∃ N,T.segs.toNat = N := ⟨_,rfl⟩
  have hN : T.segs = N := by rw [← hNN];exact hT.segsN
  have hRm := fun v h => RRoom_any T hT N hN AO cO AL cL AF cF v h
  rw [hR] at hRt
  have h3b : (r2 == 3) = false := beq_eq_false_iff_ne.2 hk
  have HN := Lib.hid hN
  clear hN hNN
  rw [hroom] at hRm
  clear hS hF hs hR hk hroom
  go_enter Tryz.func67,Tryz.ntmps67
  go_wp2_with (first
    | (go_at_call 125;(with_reducible refine (hRt _).mono ?_);rintro e w7 ⟨rfl,hB⟩;have hS := Now.below hS1 hB;clear hB hRt hS1;have hlog := Now.blk (pre:=[]) hS;have c1 : w7.cell? ⟨g,1,none⟩ = some (Value.int .i64 T.segs) := hlog.cell 1;have c2 : w7.cell? ⟨g,2,none⟩ = some (Value.int .i64 T.slots) := hlog.cell 2;have c3 : w7.cell? ⟨g,3,none⟩ = some (Value.slice AO T.order.length cO) := hlog.cell 3;have c4 : w7.cell? ⟨g,4,none⟩ = some (Value.slice AL T.lens.length cL) := hlog.cell 4;have c5 : w7.cell? ⟨g,5,none⟩ = some (Value.slice AF T.firsts.length cF) := hlog.cell 5;clear hlog)
    | (go_at_call 51;(with_reducible refine (hRm _ (tabIn_of (pre:=[_]) hS)).mono ?_);rintro e w8 ⟨rfl,hB⟩;replace hS := Now.below hS hB;clear hB hRm c1 c2 c3 c4 c5;have hrb := Now.blk (pre:=[_,_,_,_,_]) hS;have o0 : w8.cell? ⟨w.heap.size + 1,0,none⟩ = some (Value.int .i64 0) := hrb.cell 0;have o1 : w8.cell? ⟨w.heap.size + 1,1,none⟩ = some (Value.int .i64 0) := hrb.cell 1;have fo := fun k => hrb.frozen k;clear hrb;replace hS := Lib.hid (Now.set_ (pre:=[_,_,_,_,_]) (Now.set_ (pre:=[_,_,_,_,_]) hS 0 (.int .i64 0)) 1 (.int .i64 0))))
  exact loc_end (pre:=[_,_,_,_,_]) rfl hS.out rfl rfl rfl (fun h => ⟨rfl,r,AO,cO,AL,cL,AF,cF,hRl,Now.drop (pre:=[_,_,_,_,_]) h⟩)
end Go.Proofs.YtidacaihmjdmkaaGreat
namespace Go.Proofs.YtidacaihmjdmkaaGreat
open Go.RowKit
attribute [local go_sem high] run_mx run_mn
set_option maxHeartbeats 16000000 in
theorem RApp_put (s : LSt) (hs : s.Ok) (r : RDsk) (hRl : Rel s.d r) (g gd : Nat) (epoch : Int) (rc : Rec) (hF : (s.recOf epoch rc).Fits) (hk : rc.kind ≠ 3) (hR : (s.recOf epoch rc).right = true) (hroom : s.T.room ≠ 0) (hlt : s.T.last ≠ s.T.slots) (AO : Option Addr) (cO : Nat) (AL : Option Addr) (cL : Nat) (AF : Option Addr) (cF : Nat)
    {S0 : Nat → Prop} {w0 w : World} {L : List Thing} (hS : Now S0 w0 w (rlogParts g gd s.T AO cO AL cL AF cF s.lsn epoch s.gen r ++ L)) :
    Calls Tryz.prog 67 #[.pointer (some ⟨g,0,none⟩),rc.value] w fun e w' => e = .returned (.tuple #[.agg #[.int .i64 (s.put epoch rc).2.1, .int .i64 (s.put epoch rc).2.2.1], .int .i64 (s.put epoch rc).1]) ∧ GotR S0 w0 w' (s.put epoch rc).2.2.2 g gd epoch L := by
  obtain ⟨T,lsn,gen,d⟩ := s
  obtain ⟨r0,r1,r2,r3,r4,r5,r6⟩ := rc
  have hT : T.Ok := hs.t
  have hRl : Rel d r := hRl
  have hgw : g < w.heap.size := (Now.blk (pre:=[]) hS).lt
  have c6 : w.cell? ⟨g,6,none⟩ = some (.int .u64 lsn) := (Now.blk (pre:=[]) hS).cell 6
  have c7 : w.cell? ⟨g,7,none⟩ = some (.int .u32 epoch) := (Now.blk (pre:=[]) hS).cell 7
  have hne1 : g ≠ w.heap.size := Nat.ne_of_lt hgw
  have hne2 : g ≠ w.heap.size + 1 := by omega
  have hS1 : Now S0 w0 ((w.alloc (.cells #[.int .u64 lsn, .int .u32 epoch, .int .i64 r2, .int .u64 r3, .int .u64 r4, .string r5, .string r6] 118)).alloc (.cells #[.int .i64 0, .int .i64 0] 90)) (rlogParts g gd T AO cO AL cL AF cF lsn epoch gen r ++ (Thing.cells (w.heap.size + 1) 90 #[.int .i64 0, .int .i64 0] :: Thing.cells w.heap.size 118 #[.int .u64 lsn, .int .u32 epoch, .int .i64 r2, .int .u64 r3, .int .u64 r4, .string r5, .string r6] :: L)) := by
    have h1 := Now.pushCells (Now.pushCells hS 118 #[.int .u64 lsn, .int .u32 epoch, .int .i64 r2, .int .u64 r3, .int .u64 r4, .string r5, .string r6]) 90 #[.int .i64 0, .int .i64 0]
    simp only [World.size_alloc] at h1
    exact Now.perm h1 (List.perm_append_comm_assoc [_,_] (rlogParts g gd T AO cO AL cL AF cF lsn epoch gen r) L)
  have hRt := fun v => RRight_any _ hF v
  unfold Rec.value at hRt ⊢
  unfold LSt.recOf at *
  dsimp only at *
  obtain ⟨N,hNN⟩ : ∃ N,T.segs.toNat = N := ⟨_,rfl⟩
  have hN : T.segs = N := by rw [← hNN];exact hT.segsN
  have hRm := fun v h => RRoom_any T hT N hN AO cO AL cL AF cF v h
  rw [hR] at hRt
  have h3b : (r2 == 3) = false := beq_eq_false_iff_ne.2 hk
  have HN := Lib.hid hN
  clear hN hNN
  have hlsn : 1 ≤ lsn ∧ lsn < 1000000 := hs.lsn
  have hl : 0 ≤ lsn ∧ lsn + 1 < 18446744073709551616 := by omega
  have hrf : r.Fits := hRl.fits (Nat.le_trans hs.pend (by decide))
  have hlast : T.last < T.slots := by have := hT.last.2.2;omega
  have hroom2 : (T.room == 0) = false := beq_eq_false_iff_ne.2 hroom
  have hlt2 : (T.last == T.slots) = false := beq_eq_false_iff_ne.2 hlt
  have hFn := hF
  have hRn := hR
  obtain ⟨lsnB,hlB⟩ : ∃ l,lsn = l := ⟨_,rfl⟩
  have hput0 : LSt.put ⟨T,lsn,gen,d⟩ epoch ⟨r0,r1,r2,r3,r4,r5,r6⟩ = LSt.put ⟨T,lsn,gen,d⟩ epoch ⟨lsnB,epoch,r2,r3,r4,r5,r6⟩ := rfl
  rw [hput0]
  obtain ⟨ae,ag,asl,s',hans⟩ : ∃ ae ag asl s',LSt.put ⟨T,lsn,gen,d⟩ epoch ⟨lsnB,epoch,r2,r3,r4,r5,r6⟩ = (ae,ag,asl,s') := ⟨_,_,_,_,rfl⟩
  rw [hans]
  have HANS := Lib.hid hans
  have HLB := Lib.hid hlB
  clear hS hF hs hR hk hroom hlt hput0 hlB hans
  go_enter Tryz.func67,Tryz.ntmps67
  go_wp2_with (first
    | (go_at_call 125;(with_reducible refine (hRt _).mono ?_);rintro e w7 ⟨rfl,hB⟩;have hS := Now.below hS1 hB;clear hB hRt hS1;have hlog := Now.blk (pre:=[]) hS;have c1 : w7.cell? ⟨g,1,none⟩ = some (Value.int .i64 T.segs) := hlog.cell 1;have c2 : w7.cell? ⟨g,2,none⟩ = some (Value.int .i64 T.slots) := hlog.cell 2;have c3 : w7.cell? ⟨g,3,none⟩ = some (Value.slice AO T.order.length cO) := hlog.cell 3;have c4 : w7.cell? ⟨g,4,none⟩ = some (Value.slice AL T.lens.length cL) := hlog.cell 4;have c5 : w7.cell? ⟨g,5,none⟩ = some (Value.slice AF T.firsts.length cF) := hlog.cell 5;clear hlog)
    | (go_at_call 51;(with_reducible refine (hRm _ (tabIn_of (pre:=[_]) hS)).mono ?_);rintro e w8 ⟨rfl,hB⟩;replace hS := Now.below hS hB;clear hB hRm c1 c2 c3 c4 c5))
  have hlog := Now.blk (pre:=[]) hS
  have htab := tabIn_of (pre:=[_]) hS
  have hop := fun v (hv : Newer w8.drew v) => ropen_any g gd T hT AO cO AL cL AF cF lsn epoch gen v (hlog.below hv.undrew hlog.lt) w8.heap.size (htab.below hv.undrew).o hv.size
  have hle := fun v (hv : Newer w8.drew v) => RLen_any T hT AO cO AL cL AF cF T.open_ v ((htab.below hv.undrew).more hv.size)
  rw [T.len_open hT] at hle
  have hcell : ∀ v,Newer w8.drew v → v.cell? ⟨g,1,none⟩ = some (.int .i64 T.segs) ∧ v.cell? ⟨g,2,none⟩ = some (.int .i64 T.slots) ∧ v.cell? ⟨g,3,none⟩ = some (.slice AO T.order.length cO) ∧ v.cell? ⟨g,4,none⟩ = some (.slice AL T.lens.length cL) ∧ v.cell? ⟨g,5,none⟩ = some (.slice AF T.firsts.length cF) := fun v hv => by
    have hb1 := hlog.below hv.undrew hlog.lt
    exact ⟨hb1.cell 1,hb1.cell 2,hb1.cell 3,hb1.cell 4,hb1.cell 5⟩
  replace hS := hS.drew
  clear hlog htab
  refine wp_region_ord Newer.grow [(0,true),(1,true),(2,true),(3,true),(4,true),(5,true),(6,true),(7,true),(8,true),(9,true),(10,true),(11,true),(12,true)] [] (by kernel_rfl) (by kernel_rfl) rfl (by kernel_rfl) (by intro _ _ d _ _ h;cases d <;> exact h) ?_
  iterate 13
    (apply wpOrd_take
     · exact rfl
     · intro w1 h1
       (obtain ⟨c1,c2,c3,c4,c5⟩ := hcell w1 h1)
       go_simp
       first
         | with_reducible exact ⟨rfl,sqN _⟩
         | with_reducible exact hop _ h1 | with_reducible exact hle _ h1
     simp only [Act.put,sqA,sqB,sqC])
  refine wpOrd_done fun w9 h9 => ?_
  replace hS := Now.below hS h9
  clear hop hle hcell h9
  replace hS : Now S0 w0 w9 (rlogParts g gd T AO cO AL cL AF cF lsn epoch gen r ++ (Thing.cells (w.heap.size + 1) 90 #[.int .i64 0, .int .i64 0] :: Thing.cells w.heap.size 118 #[.int .u64 lsnB, .int .u32 epoch, .int .i64 r2, .int .u64 r3, .int .u64 r4, .string r5, .string r6] :: L)) := by rw [← HLB.out];exact hS
  have hw0 := rwrite_any g gd T hT AO cO AL cL AF cF lsn epoch gen hl r hrf ⟨lsnB,epoch,r2,r3,r4,r5,r6⟩ hFn hRn (L := Thing.cells (w.heap.size + 1) 90 #[.int .i64 0, .int .i64 0] :: Thing.cells w.heap.size 118 #[.int .u64 lsnB, .int .u32 epoch, .int .i64 r2, .int .u64 r3, .int .u64 r4, .string r5, .string r6] :: L) hS
  obtain ⟨we,hwe⟩ : ∃ we,r.writeE T.at_ (Rec.sector ⟨lsn,epoch,r2,r3,r4,r5,r6⟩) = we := ⟨_,rfl⟩
  have hrw := hRl.write T.at_ (Rec.sector ⟨lsn,epoch,r2,r3,r4,r5,r6⟩)
  have hbx := Now.blk (pre:=[_,_,_,_,_,_]) hS
  have q0 : w9.cell? ⟨w.heap.size,0,none⟩ = some (Value.int .u64 lsnB) := hbx.cell 0
  have q1 : w9.cell? ⟨w.heap.size,1,none⟩ = some (Value.int .u32 epoch) := hbx.cell 1
  have q2 : w9.cell? ⟨w.heap.size,2,none⟩ = some (Value.int .i64 r2) := hbx.cell 2
  have q3 : w9.cell? ⟨w.heap.size,3,none⟩ = some (Value.int .u64 r3) := hbx.cell 3
  have q4 : w9.cell? ⟨w.heap.size,4,none⟩ = some (Value.int .u64 r4) := hbx.cell 4
  have q5 : w9.cell? ⟨w.heap.size,5,none⟩ = some (Value.string r5) := hbx.cell 5
  have q6 : w9.cell? ⟨w.heap.size,6,none⟩ = some (Value.string r6) := hbx.cell 6
  clear hbx
  have hput : LSt.put ⟨T,lsn,gen,d⟩ epoch ⟨lsnB,epoch,r2,r3,r4,r5,r6⟩ = if we = 0 then (0,T.open_,T.last,⟨T.count,lsn + 1,gen,d.writeS T.at_ (Rec.sector ⟨lsn,epoch,r2,r3,r4,r5,r6⟩)⟩) else (we,0,0,⟨T,lsn,gen,d⟩) := by
    unfold LSt.put LSt.recOf
    dsimp only
    rw [hrw.1,hwe]
  have hans := HANS.out
  rw [hput] at hans
  clear HANS
  by_cases z1 : we = 0
  case neg =>
    rw [if_neg z1] at hans
    have x1 := congrArg (·.1) hans
    have x2 := congrArg (·.2.1) hans
    have x3 := congrArg (·.2.2.1) hans
    have x4 := congrArg (·.2.2.2) hans
    dsimp only at x1 x2 x3 x4
    subst x1 x2 x3 x4
    clear hans
    have hw1 := hw0.mono (R' := fun e w' => e = .returned (.tuple #[.agg #[.int .i64 0, .int .i64 0], .int .i64 we]) ∧ Now S0 w0 w' (rlogParts g gd T AO cO AL cL AF cF lsn epoch gen r ++ (Thing.cells (w.heap.size + 1) 90 #[.int .i64 0, .int .i64 0] :: Thing.cells w.heap.size 118 #[.int .u64 lsnB, .int .u32 epoch, .int .i64 r2, .int .u64 r3, .int .u64 r4, .string r5, .string r6] :: L))) (fun e w' h => h.2 we z1 hwe)
    have hne : (we == 0) = false := beq_eq_false_iff_ne.2 z1
    clear hw0 hwe hput hS hrw
    go_wp2_with (go_at_call 123;(refine hw1.mono ?_);rintro e w10 ⟨rfl,hS⟩;clear hw1 q0 q1 q2 q3 q4 q5 q6;have hrb := Now.blk (pre:=[_,_,_,_,_]) hS;have o0 : w10.cell? ⟨w.heap.size + 1,0,none⟩ = some (Value.int .i64 0) := hrb.cell 0;have o1 : w10.cell? ⟨w.heap.size + 1,1,none⟩ = some (Value.int .i64 0) := hrb.cell 1;have fo := fun k => hrb.frozen k;have hlr := hrb.lt;have hne5 := Nat.ne_of_lt hrb.lt;clear hrb;replace hS := Lib.hid (Now.alloc (Now.set_ (pre:=[_,_,_,_,_]) (Now.set_ (pre:=[_,_,_,_,_]) hS 0 (.int .i64 0)) 1 (.int .i64 0)) (.cells #[.int .i64 0, .int .i64 0] 90)))
    exact loc_end (pre:=[_,_,_,_,_]) rfl hS.out rfl rfl rfl (fun h => ⟨rfl,r,AO,cO,AL,cL,AF,cF,hRl,Now.drop (pre:=[_,_,_,_,_]) h⟩)
  subst z1
  rw [if_pos rfl] at hans
  have x1 := congrArg (·.1) hans
  have x2 := congrArg (·.2.1) hans
  have x3 := congrArg (·.2.2.1) hans
  have x4 := congrArg (·.2.2.2) hans
  dsimp only at x1 x2 x3 x4
  subst x1 x2 x3 x4
  clear hans
  have hw1 := hw0.mono (R' := fun e w' => e = .returned (.tuple #[.agg #[.int .i64 T.open_, .int .i64 (T.len T.open_)], .int .i64 0]) ∧ Now S0 w0 w' (rlogParts g gd T AO cO AL cL AF cF (lsn + 1) epoch gen (r.writeS T.at_ (Rec.sector ⟨lsn,epoch,r2,r3,r4,r5,r6⟩)) ++ (Thing.cells (w.heap.size + 1) 90 #[.int .i64 0, .int .i64 0] :: Thing.cells w.heap.size 118 #[.int .u64 lsnB, .int .u32 epoch, .int .i64 r2, .int .u64 r3, .int .u64 r4, .string r5, .string r6] :: L))) (fun e w' h => h.1 hwe)
  rw [T.len_open hT] at hw1
  have hcnt := fun v h => RCount_ok T hT AO cO AL cL AF cF v h hlast
  have HR2 := Lib.hid hrw.2
  clear hw0 hwe hput hS hrw
  go_wp2_with (first
    | (go_at_call 123;(refine hw1.mono ?_);rintro e w10 ⟨rfl,hS⟩;clear hw1 q0 q1 q2 q3 q4 q5 q6;have hg10 := (Now.blk (pre:=[]) hS).lt;have hr10 := (Now.blk (pre:=[_,_,_,_,_]) hS).lt;have hng10 := Nat.ne_of_lt hg10;have hnr10 := Nat.ne_of_lt hr10;have hnr11 := Ne.symm hnr10;have hng11 := Ne.symm hng10;have hne8 := Ne.symm hne2;replace hS := Now.pushCells hS 90 #[.int .i64 T.open_, .int .i64 T.last];have hlog := Now.blk (pre:=[_]) hS;have c1 : _ = some (Value.int .i64 T.segs) := hlog.cell 1;have c2 : _ = some (Value.int .i64 T.slots) := hlog.cell 2;have c3 : _ = some (Value.slice AO T.order.length cO) := hlog.cell 3;have c4 : _ = some (Value.slice AL T.lens.length cL) := hlog.cell 4;have c5 : _ = some (Value.slice AF T.firsts.length cF) := hlog.cell 5;clear hlog)
    | (go_at_call 85;(refine (hcnt _ (tabIn_of (pre:=[_,_]) hS)).mono ?_);rintro e w11 ⟨B1,l1,B2,l2,B3,l3,rfl,hO⟩;replace hS := Now.pushAll hS hO;clear hcnt hO c1 c2 c3 c4 c5;have hlog := Now.blk (pre:=[_,_,_,_]) hS;have c1 : w11.cell? ⟨g,1,none⟩ = some (Value.int .i64 T.segs) := hlog.cell 1;have c2 : w11.cell? ⟨g,2,none⟩ = some (Value.int .i64 T.slots) := hlog.cell 2;have c3 : w11.cell? ⟨g,3,none⟩ = some (Value.slice AO T.order.length cO) := hlog.cell 3;have c4 : w11.cell? ⟨g,4,none⟩ = some (Value.slice AL T.lens.length cL) := hlog.cell 4;have c5 : w11.cell? ⟨g,5,none⟩ = some (Value.slice AF T.firsts.length cF) := hlog.cell 5;have fl := fun k => hlog.frozen k;have hlt := hlog.lt;have hne3 := Nat.ne_of_lt hlt;have hl7 := Now.blk (pre:=[_,_,_]) hS;have e0 : w11.cell? ⟨w10.heap.size,0,none⟩ = some (Value.int .i64 T.open_) := hl7.cell 0;have e1 : w11.cell? ⟨w10.heap.size,1,none⟩ = some (Value.int .i64 T.last) := hl7.cell 1;have hlt7 := hl7.lt;have hne4 := Nat.ne_of_lt hl7.lt;have hrb := Now.blk (pre:=[_,_,_,_,_,_,_,_,_]) hS;have o0 : w11.cell? ⟨w.heap.size + 1,0,none⟩ = some (Value.int .i64 0) := hrb.cell 0;have o1 : w11.cell? ⟨w.heap.size + 1,1,none⟩ = some (Value.int .i64 0) := hrb.cell 1;have fo := fun k => hrb.frozen k;have hltr := hrb.lt;have hne5 := Nat.ne_of_lt hrb.lt;clear hlog hl7 hrb;replace hS := Now.set_ (pre:=[_,_,_,_,_,_,_,_,_]) (Now.set_ (pre:=[_,_,_,_,_,_,_,_,_]) (Now.set_ (pre:=[_,_,_,_]) (Now.set_ (pre:=[_,_,_,_]) (Now.set_ (pre:=[_,_,_,_]) (Now.set_ (pre:=[_,_,_,_]) (Now.set_ (pre:=[_,_,_,_]) hS 1 (.int .i64 T.count.segs)) 2 (.int .i64 T.count.slots)) 3 (.slice B1 T.count.order.length l1)) 4 (.slice B2 T.count.lens.length l2)) 5 (.slice B3 T.count.firsts.length l3)) 0 (.int .i64 T.open_)) 1 (.int .i64 T.last);replace hS := Lib.hid (Now.alloc hS (.cells #[.int .i64 T.count.segs, .int .i64 T.count.slots, .slice B1 T.count.order.length l1, .slice B2 T.count.lens.length l2, .slice B3 T.count.firsts.length l3] 71))))
  exact loc_end (pre:=[_,_,_,_,_,_,_,_,_]) rfl hS.out rfl rfl rfl (fun h => ⟨rfl,_,B1,l1,B2,l2,B3,l3,HR2.out,Now.front (pre:=[_,_,_]) (Now.drop (pre:=[_,_,_,_,_]) (Now.drop (pre:=[_,_,_,_]) (Now.drop (pre:=[_,_,_,_]) (Now.drop (pre:=[_,_,_,_]) (Now.drop (pre:=[_,_,_]) h)))))⟩)
end Go.Proofs.YtidacaihmjdmkaaGreat
