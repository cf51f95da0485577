/- What the laws of this seat lean on, part 12. -/
import Derived.Test.YtidacaihmjdmkaaGreatZK11
import Derived.Test.YtidacaihmjdmkaaGreatZK1
import Derived.WalkLawsBesides
import Derived.Test.YtidacaihmjdmkaaGreatProg
import Derived.Test.YtidacaihmjdmkaaGreatZK3
import Derived.WalkKit
import Derived.Lib.Hide
import Derived.WalkSpells
import Derived.Laws.Externs
set_option linter.unusedSimpArgs false
set_option linter.unusedVariables false
set_option maxRecDepth 100000
namespace Go.Proofs.YtidacaihmjdmkaaGreat
open Go.RowKit
attribute [local go_sem high] run_mx run_mn
set_option maxHeartbeats 8000000 in
theorem LDrop_bad (g gd : Nat) (T : Tab) (hT : T.Ok) (AO : Option Addr) (cO : Nat) (AL : Option Addr) (cL : Nat) (AF : Option Addr) (cF : Nat) (lsn epoch gen seg ver : Int) (d : Dsk) (hl : idx T.order seg < 0 ∨ idx T.order seg = (T.order.length - 1 : Nat))
    {S0 : Nat → Prop} {w0 w : World} {L : List Thing} (hS : Now S0 w0 w (logParts g gd T AO cO AL cL AF cF lsn epoch gen d ++ L)) :
    Calls Tryz.prog 59 #[.pointer (some ⟨g,0,none⟩), .int .i64 seg, .int .u64 ver] w fun e w' => e = .returned (.int .i64 1) ∧ Now S0 w0 w' (logParts g gd T AO cO AL cL AF cF lsn epoch gen d ++ L) := by
  have hlog := Now.blk (pre:=[]) hS
  have c1 : _ = some (Value.int .i64 T.segs) := hlog.cell 1
  have c2 : _ = some (Value.int .i64 T.slots) := hlog.cell 2
  have c3 : _ = some (Value.slice AO T.order.length cO) := hlog.cell 3
  have c4 : _ = some (Value.slice AL T.lens.length cL) := hlog.cell 4
  have c5 : _ = some (Value.slice AF T.firsts.length cF) := hlog.cell 5
  have hd := Drop_bad T hT AO cO AL cL AF cF seg w (tabIn_of (pre:=[_]) hS) hl
  clear hlog hl
  go_enter Tryz.func59,Tryz.ntmps59
  go_wp2_with (go_at_call 117;(with_reducible refine hd.mono ?_);rintro e w1 ⟨rfl,hB⟩;have hS1 := Lib.hid (Now.alloc (Now.below hS hB) (.cells zeroTab 64));clear hS hB hd c1 c2 c3 c4 c5)
  go_ret
  exact ⟨rfl,hS1.out⟩
theorem Tab.drop_ok (T : Tab) (hT : T.Ok) (i : Nat) (hi : i + 1 < T.order.length) : (T.drop i).Ok := by
  have h1 := hT.len
  have h2 := hT.fst
  have h3 := hT.many
  have e1 : (T.order.eraseIdx i).length = T.order.length - 1 := by rw [List.length_eraseIdx,if_pos (by omega)]
  have e2 : (T.lens.eraseIdx i).length = T.lens.length - 1 := by rw [List.length_eraseIdx,if_pos (by omega)]
  have e3 : (T.firsts.eraseIdx i).length = T.firsts.length - 1 := by rw [List.length_eraseIdx,if_pos (by omega)]
  refine ⟨hT.segs,hT.slots,?_,?_,?_,?_,fun s hs => hT.inn s (List.mem_of_mem_eraseIdx hs),hT.nodup.sublist (List.eraseIdx_sublist _ _),fun l hl => hT.lens l (List.mem_of_mem_eraseIdx hl),fun f hf => hT.firsts f (List.mem_of_mem_eraseIdx hf)⟩
  · show 1 ≤ (T.order.eraseIdx i).length;omega
  · show (T.order.eraseIdx i).length ≤ 16;omega
  · show (T.lens.eraseIdx i).length = (T.order.eraseIdx i).length;omega
  · show (T.firsts.eraseIdx i).length = (T.order.eraseIdx i).length;omega
set_option maxHeartbeats 8000000 in
theorem LDrop_ok (g gd : Nat) (T : Tab) (hT : T.Ok) (AO : Option Addr) (cO : Nat) (AL : Option Addr) (cL : Nat) (AF : Option Addr) (cF : Nat) (lsn epoch gen seg ver : Int) (d : Dsk) (hp : d.pend.length ≤ 1000000) (hl : 1 ≤ lsn ∧ lsn < 18446744073709551616) (he : 0 ≤ epoch ∧ epoch < 4294967296) (hg : 0 ≤ gen ∧ gen + 1 < 18446744073709551616) (hv : 0 ≤ ver ∧ ver < 18446744073709551616) (i : Nat) (hx : idx T.order seg = i) (hi : i + 1 < T.order.length)
    {S0 : Nat → Prop} {w0 w : World} {L : List Thing} (hS : Now S0 w0 w (logParts g gd T AO cO AL cL AF cF lsn epoch gen d ++ L)) :
    Calls Tryz.prog 59 #[.pointer (some ⟨g,0,none⟩), .int .i64 seg, .int .u64 ver] w fun e w' =>
      e = .returned (.int .i64 (ckDo d gen ⟨((T.drop i).chk (gen + 1) epoch lsn ver).enc.toArray⟩).1) ∧ ∃ A1 k1 A2 k2 A3 k3,Now S0 w0 w' (logParts g gd (T.drop i) A1 k1 A2 k2 A3 k3 lsn epoch (ckDo d gen ⟨((T.drop i).chk (gen + 1) epoch lsn ver).enc.toArray⟩).2.1 (ckDo d gen ⟨((T.drop i).chk (gen + 1) epoch lsn ver).enc.toArray⟩).2.2 ++ L) := by
  have hlog := Now.blk (pre:=[]) hS
  have c1 : _ = some (Value.int .i64 T.segs) := hlog.cell 1
  have c2 : _ = some (Value.int .i64 T.slots) := hlog.cell 2
  have c3 : _ = some (Value.slice AO T.order.length cO) := hlog.cell 3
  have c4 : _ = some (Value.slice AL T.lens.length cL) := hlog.cell 4
  have c5 : _ = some (Value.slice AF T.firsts.length cF) := hlog.cell 5
  have hd := Drop_ok T hT AO cO AL cL AF cF seg w (tabIn_of (pre:=[_]) hS) i hx hi
  have hT2 := T.drop_ok hT i hi
  have hck := fun v A1 k1 A2 k2 A3 k3 (h : Now S0 w0 v (logParts g gd (T.drop i) A1 k1 A2 k2 A3 k3 lsn epoch gen d ++ L)) => Checkpoint_any g gd (T.drop i) hT2 A1 k1 A2 k2 A3 k3 lsn epoch gen ver d hp hl he hg hv h
  generalize T.drop i = T2 at *
  clear hlog hx hi hT hT2
  go_enter Tryz.func59,Tryz.ntmps59
  go_wp2_with (go_at_call 117;(with_reducible refine hd.mono ?_);rintro e w1 ⟨A1,k1,A2,k2,A3,k3,rfl,hO⟩;have hS1 := Now.pushCells (Now.pushAll hS hO) 64 (tabCells T2 A1 k1 A2 k2 A3 k3);have hlog := Now.blk (pre:=[_,_,_,_]) hS1;have b1 : _ = some (Value.int .i64 T.segs) := hlog.cell 1;have b2 : _ = some (Value.int .i64 T.slots) := hlog.cell 2;have b3 : _ = some (Value.slice AO T.order.length cO) := hlog.cell 3;have b4 : _ = some (Value.slice AL T.lens.length cL) := hlog.cell 4;have b5 : _ = some (Value.slice AF T.firsts.length cF) := hlog.cell 5;have fl := fun k => hlog.frozen k;have hS2 := Lib.hid (Now.set_ (pre:=[_,_,_,_]) (Now.set_ (pre:=[_,_,_,_]) (Now.set_ (pre:=[_,_,_,_]) (Now.set_ (pre:=[_,_,_,_]) (Now.set_ (pre:=[_,_,_,_]) hS1 1 (.int .i64 T2.segs)) 2 (.int .i64 T2.slots)) 3 (.slice A1 T2.order.length k1)) 4 (.slice A2 T2.lens.length k2)) 5 (.slice A3 T2.firsts.length k3));clear hS hO hd c1 c2 c3 c4 c5 hlog hS1)
  have hS3 := Now.front (pre:=[_,_,_]) (Now.drop (pre:=[_,_,_,_]) (Now.drop (pre:=[_,_,_,_]) (Now.drop (pre:=[_,_,_,_]) (Now.drop (pre:=[]) hS2.out))))
  go_wp2_with (go_at_call 65;refine (hck _ A1 k1 A2 k2 A3 k3 hS3).mono ?_;rintro e w2 ⟨rfl,hS4⟩)
  go_ret
  exact ⟨rfl,A1,k1,A2,k2,A3,k3,hS4⟩
end Go.Proofs.YtidacaihmjdmkaaGreat
namespace Go.Proofs.YtidacaihmjdmkaaGreat
open Go.RowKit
attribute [local go_sem high] run_mx run_mn
set_option maxHeartbeats 8000000 in
theorem roll_full (g gd : Nat) (T : Tab) (hT : T.Ok) (AO : Option Addr) (cO : Nat) (AL : Option Addr) (cL : Nat) (AF : Option Addr) (cF : Nat) (lsn epoch gen : Int) (d : Dsk) (N : Nat) (hN : T.segs = N) (hf : T.freeTo N = [])
    {S0 : Nat → Prop} {w0 w : World} {L : List Thing} (hS : Now S0 w0 w (logParts g gd T AO cO AL cL AF cF lsn epoch gen d ++ L)) :
    Calls Tryz.prog 99 #[.pointer (some ⟨g,0,none⟩)] w fun e w' => e = .panicked [{ v := stopV 10,recovered := false }] ∧ Now S0 w0 w' (logParts g gd T AO cO AL cL AF cF lsn epoch gen d ++ L) := by
  have hlog := Now.blk (pre:=[]) hS
  have c1 : _ = some (Value.int .i64 T.segs) := hlog.cell 1
  have c2 : _ = some (Value.int .i64 T.slots) := hlog.cell 2
  have c3 : _ = some (Value.slice AO T.order.length cO) := hlog.cell 3
  have c4 : _ = some (Value.slice AL T.lens.length cL) := hlog.cell 4
  have c5 : _ = some (Value.slice AF T.firsts.length cF) := hlog.cell 5
  have hr := Roll_any T hT AO cO AL cL AF cF 0 N hN w (tabIn_of (pre:=[_]) hS)
  replace hr := hr.mono (R' := fun e w' => e = .returned (.tuple #[.agg zeroTab, .int .i64 10]) ∧ Newer w w') (fun e w' h => h.1 hf)
  clear hlog hN hf
  go_enter Tryz.func99,Tryz.ntmps99
  go_wp2_with (first
    | (go_at_call 140;(with_reducible refine hr.mono ?_);rintro e w1 ⟨rfl,hB⟩;have hS1 := Lib.hid (Now.alloc (Now.below hS hB) (.cells zeroTab 64));clear hS hB hr c1 c2 c3 c4 c5)
    | (go_at_call 102;(with_reducible refine (lmust_no 10 (by decide) _).mono ?_);rintro e w2 ⟨rfl,rfl⟩))
  exact ⟨rfl,rfl,hS1.out⟩
def footR (lsn epoch f : Int) : Rec := { lsn := lsn,epoch := epoch,kind := 3,ver := 0,dl := f,id := ⟨#[]⟩,val := ⟨#[]⟩ }
theorem footR_right (lsn epoch f : Int) (hl : lsn ≠ 0) (hf : f < 16) : (footR lsn epoch f).right = true := by
  have h1 : (lsn == 0) = false := beq_eq_false_iff_ne.2 hl
  unfold Rec.right footR
  simp [h1,hf]
theorem footR_fits (lsn epoch f : Int) (hl : 0 ≤ lsn ∧ lsn < 18446744073709551616) (he : 0 ≤ epoch ∧ epoch < 4294967296) (hf : 0 ≤ f ∧ f < 18446744073709551616) : (footR lsn epoch f).Fits := ⟨hl,he,by show (-9223372036854775808 : Int) ≤ 3 ∧ (3 : Int) ≤ 9223372036854775807;omega,by show (0 : Int) ≤ 0 ∧ (0 : Int) < 18446744073709551616;omega,hf,by show (0 : Nat) ≤ _;omega,by show (0 : Nat) ≤ _;omega⟩
theorem freeTo_in (T : Tab) (k : Nat) (x : Int) (h : x ∈ T.freeTo k) : 0 ≤ x ∧ x < k := by
  unfold Tab.freeTo at h
  obtain ⟨h1,_⟩ := List.mem_filter.1 h
  obtain ⟨i,hi,rfl⟩ := List.mem_map.1 h1
  have := List.mem_range.1 hi
  omega
set_option maxHeartbeats 8000000 in
theorem roll_free (g gd : Nat) (T : Tab) (hT : T.Ok) (AO : Option Addr) (cO : Nat) (AL : Option Addr) (cL : Nat) (AF : Option Addr) (cF : Nat) (lsn epoch gen : Int) (d : Dsk) (hp : d.pend.length ≤ 1000000) (hl : 1 ≤ lsn ∧ lsn + 1 < 18446744073709551616) (he : 0 ≤ epoch ∧ epoch < 4294967296) (N : Nat) (hN : T.segs = N) (f : Int) (l : List Int) (hf : T.freeTo N = f :: l)
    {S0 : Nat → Prop} {w0 w : World} {L : List Thing} (hS : Now S0 w0 w (logParts g gd T AO cO AL cL AF cF lsn epoch gen d ++ L)) :
    Calls Tryz.prog 99 #[.pointer (some ⟨g,0,none⟩)] w fun e w' =>
      (d.writeE T.at_ (footR lsn epoch f).sector = 0 → e = .returned (.tuple #[]) ∧ ∃ A1 k1 A2 k2 A3 k3,Now S0 w0 w' (logParts g gd (T.roll f (lsn + 1)) A1 k1 A2 k2 A3 k3 (lsn + 1) epoch gen (d.writeS T.at_ (footR lsn epoch f).sector) ++ L)) ∧
      (∀ x,x ≠ 0 → d.writeE T.at_ (footR lsn epoch f).sector = x → e = .panicked [{ v := stopV x,recovered := false }] ∧ Now S0 w0 w' (logParts g gd T AO cO AL cL AF cF lsn epoch gen d ++ L)) := by
  have hlog := Now.blk (pre:=[]) hS
  have c1 : _ = some (Value.int .i64 T.segs) := hlog.cell 1
  have c2 : _ = some (Value.int .i64 T.slots) := hlog.cell 2
  have c3 : _ = some (Value.slice AO T.order.length cO) := hlog.cell 3
  have c4 : _ = some (Value.slice AL T.lens.length cL) := hlog.cell 4
  have c5 : _ = some (Value.slice AF T.firsts.length cF) := hlog.cell 5
  have hr := Roll_any T hT AO cO AL cL AF cF 0 N hN w (tabIn_of (pre:=[_]) hS)
  replace hr := hr.mono (R' := fun e w' => GotTab w w' (T.roll f 0) e) (fun e w' h => h.2 f l hf)
  have hmn := hT.many
  have hlr : (T.roll f 0).order.length = T.order.length + 1 := by simp [Tab.roll]
  have hwr : wrap64 (((T.roll f 0).order.length : Int) - 1) = (T.order.length : Int) := by rw [hlr,IntWalk.wrap64_in _ (by omega)];omega
  have hlt2 : (T.order.length : Int) < ((T.roll f 0).order.length : Int) := by rw [hlr];omega
  have HLR := Lib.hid hlr
  clear hlr
  have hf16 : 0 ≤ f ∧ f < 16 := by
    have := freeTo_in T N f (by rw [hf];simp)
    have := hT.segs
    omega
  have hwf : IntKind.u64.wrap f = f := IntWalk.u64_in _ (by omega)
  have hwl : IntKind.u64.wrap (lsn + 1) = lsn + 1 := IntWalk.u64_in _ (by omega)
  have HN := Lib.hid hN
  have HF := Lib.hid hf
  clear hN hf
  have hmf : ∀ (fn : Fn) (first cap : Array Value) (w : World),(Instr.makeFunc fn first cap).run Tryz.prog w = .ok (.func fn first cap) w := fun _ _ _ _ => rfl
  clear hlog
  go_enter Tryz.func99,Tryz.ntmps99
  go_wp2_with (first
    | (go_at_call 140;(with_reducible refine hr.mono ?_);rintro e w1 ⟨A1,k1,A2,k2,A3,k3,rfl,hO⟩;have hS1 := Now.pushCells (Now.pushAll hS hO) 64 (tabCells (T.roll f 0) A1 k1 A2 k2 A3 k3);have hbx := Now.blk (pre:=[]) hS1;have b2 : _ = some (Value.slice A1 (T.roll f 0).order.length k1) := hbx.cell 2;have hro := Reads.of_own (Now.row (pre:=[_]) hS1);obtain ⟨ad,rfl,hadB,hcx⟩ := read_cell (k := T.order.length) (u := .int .i64 f) hro (by simp [Tab.roll]) (by simp [Tab.roll,ints]);clear hro hadB;clear hbx hS hO hr c1 c2 c3 c4 c5)
    | (go_at_call 102;(with_reducible refine (lmust_yes _).mono ?_);rintro e w2 ⟨rfl,rfl⟩))
  have hS2 : Now S0 w0 _ (logParts g gd T AO cO AL cL AF cF lsn epoch gen d ++ ([Thing.cells w1.heap.size 64 (tabCells (T.roll f 0) (some ad) k1 A2 k2 A3 k3)] ++ tabParts (T.roll f 0) (some ad) k1 A2 k2 A3 k3 ++ L)) := Now.perm hS1 (by
    show List.Perm (([Thing.cells w1.heap.size 64 (tabCells (T.roll f 0) (some ad) k1 A2 k2 A3 k3)] ++ tabParts (T.roll f 0) (some ad) k1 A2 k2 A3 k3) ++ (logParts g gd T AO cO AL cL AF cF lsn epoch gen d ++ L)) _
    rw [← List.append_assoc, ← List.append_assoc]
    exact List.Perm.append_right _ List.perm_append_comm)
  have hw := write_any g gd T hT AO cO AL cL AF cF lsn epoch gen d (by omega) (footR 0 0 f) (footR_fits lsn epoch f (by omega) he (by omega)) (footR_right lsn epoch f (by omega) hf16.2) hS2
  obtain ⟨we,hwe⟩ : ∃ we,d.writeE T.at_ (footR lsn epoch f).sector = we := ⟨_,rfl⟩
  have HWE := Lib.hid hwe
  by_cases z1 : we = 0
  case neg =>
    replace hw := hw.mono (R' := fun e w' => e = .panicked [{ v := stopV we,recovered := false }] ∧ Now S0 w0 w' (logParts g gd T AO cO AL cL AF cF lsn epoch gen d ++ ([Thing.cells w1.heap.size 64 (tabCells (T.roll f 0) (some ad) k1 A2 k2 A3 k3)] ++ tabParts (T.roll f 0) (some ad) k1 A2 k2 A3 k3 ++ L))) (fun e w' h => h.2 we z1 hwe)
    clear hwe hS1 hS2
    go_wp2_with (go_at_call 100;refine hw.mono ?_;rintro e w3 ⟨rfl,hS3⟩)
    refine ⟨rfl,fun h0 => absurd (HWE.out.symm.trans h0) z1,fun x hx h => ⟨by rw [← h,HWE.out],Now.drop (pre:=[_,_,_,_,_]) (Now.drop (pre:=[_,_,_,_,_]) (Now.drop (pre:=[_,_,_,_,_]) (Now.drop (pre:=[_,_,_,_,_]) hS3)))⟩⟩
  subst z1
  replace hw := hw.mono (R' := fun e w' => e = .returned (.agg #[.int .i64 T.open_, .int .i64 (T.len T.open_)]) ∧ Now S0 w0 w' (logParts g gd T AO cO AL cL AF cF (IntKind.u64.wrap (lsn + 1)) epoch gen (d.writeS T.at_ (footR lsn epoch f).sector) ++ ([Thing.cells w1.heap.size 64 (tabCells (T.roll f 0) (some ad) k1 A2 k2 A3 k3)] ++ tabParts (T.roll f 0) (some ad) k1 A2 k2 A3 k3 ++ L))) (fun e w' h => h.1 hwe)
  rw [hwl] at hw
  clear hwe hS1 hS2
  go_wp2_with (go_at_call 100;refine hw.mono ?_;rintro e w3 ⟨rfl,hS3⟩)
  have hlog := Now.blk (pre:=[]) hS3
  have HB : g < w3.drew.heap.size := hlog.lt
  have hcell : ∀ v,KeepG g w3.drew v → v.cell? ⟨g,1,none⟩ = some (.int .i64 T.segs) ∧ v.cell? ⟨g,2,none⟩ = some (.int .i64 T.slots) ∧ v.cell? ⟨g,3,none⟩ = some (.slice AO T.order.length cO) ∧ v.cell? ⟨g,4,none⟩ = some (.slice AL T.lens.length cL) ∧ v.cell? ⟨g,5,none⟩ = some (.slice AF T.firsts.length cF) ∧ v.cell? ⟨g,6,none⟩ = some (.int .u64 (lsn + 1)) := fun v hv => by
    have hb1 := KeepG.blk (w := w3.drew) hv hlog
    exact ⟨hb1.cell 1,hb1.cell 2,hb1.cell 3,hb1.cell 4,hb1.cell 5,hb1.cell 6⟩
  have hS4 := hS3.drew
  clear hS3 hlog hw b2 hcx
  refine wp_region_takesN (KeepG.grow g) [15] [(0,false),(1,false),(2,false),(3,false),(4,false),(5,false),(6,false),(7,false),(8,false)] 8 (by kernel_rfl) (by kernel_rfl) rfl (by kernel_rfl) ?_
  iterate 9
    (apply wpTakes_take
     · exact rfl
     · intro w1v hR1
       (obtain ⟨d1,d2,d3,d4,d5,d6⟩ := hcell _ hR1)
       go_simp
       first
         | with_reducible exact ⟨rfl,sqN _⟩
     simp only [Act.put,sqA,sqB,sqC])
  refine wpTakes_done ?_
  clear hcell HB
  generalize w1.heap.size = bx at hS4
  clear w1
  generalize w3.drew = wc at hS4 ⊢
  refine wpAnyE_fork [9] (by kernel_rfl) (by simp) ?_
  refine sqM ?_
  refine ⟨_,rfl,?_⟩
  intro w1 h1 K hK
  replace hS4 := Now.below hS4 h1
  have hr2 := Roll_any T hT AO cO AL cL AF cF (lsn + 1) N HN.out w1 (tabIn_of (pre:=[_]) hS4)
  replace hr2 := hr2.mono (R' := fun e w' => GotTab w1 w' (T.roll f (lsn + 1)) e) (fun e w' h => h.2 f l HF.out)
  go_simp
  go_at_call 140
  refine hr2.mono ?_
  rintro e w5 ⟨B1,l1,B2,l2,B3,l3,rfl,hO⟩
  have hS5 := Now.pushAll hS4 hO
  refine hK _ _ (fun _ _ => ⟨(Now.blk (pre:=[_,_,_]) hS5).trans (Now.blk (pre:=[]) hS4).symm,hO.size⟩) ?_
  clear hK K hr2 hS4 hO h1
  clear w1
  try simp only [Act.put,sqA,sqB,sqC]
  apply wpAnyE_pure (KeepG.grow g) 10
  · kernel_rfl
  · intro _ _ d _ _ h;cases d <;> exact h
  · exact rfl
  · kernel_rfl
  · intro w1
    go_simp
    exact ⟨rfl,sqN _⟩
  try simp only [Act.put,sqA,sqB,sqC]
  apply wpAnyE_pure (KeepG.grow g) 11
  · kernel_rfl
  · intro _ _ d _ _ h;cases d <;> exact h
  · exact rfl
  · kernel_rfl
  · intro w1
    go_simp
    exact ⟨rfl,sqN _⟩
  try simp only [Act.put,sqA,sqB,sqC]
  apply wpAnyE_pure (KeepG.grow g) 12
  · kernel_rfl
  · intro _ _ d _ _ h;cases d <;> exact h
  · exact rfl
  · kernel_rfl
  · intro w1
    go_simp
    exact ⟨rfl,sqN _⟩
  try simp only [Act.put,sqA,sqB,sqC]
  apply wpAnyE_pure (KeepG.grow g) 13
  · kernel_rfl
  · intro _ _ d _ _ h;cases d <;> exact h
  · exact rfl
  · kernel_rfl
  · intro w1
    go_simp
    exact ⟨rfl,sqN _⟩
  try simp only [Act.put,sqA,sqB,sqC]
  apply wpAnyE_pure (KeepG.grow g) 14
  · kernel_rfl
  · intro _ _ d _ _ h;cases d <;> exact h
  · exact rfl
  · kernel_rfl
  · intro w1
    go_simp
    exact ⟨rfl,sqN _⟩
  try simp only [Act.put,sqA,sqB,sqC]
  refine wpAnyE_fork [15] (by kernel_rfl) (by simp) ?_
  refine sqM ?_
  refine ⟨_,rfl,?_⟩
  intro w1 h1 K hK
  replace hS5 := Now.below hS5 h1
  have hlog := Now.blk (pre:=[_,_,_]) hS5
  have c1 : _ = some (Value.int .i64 T.segs) := hlog.cell 1
  have c2 : _ = some (Value.int .i64 T.slots) := hlog.cell 2
  have c3 : _ = some (Value.slice AO T.order.length cO) := hlog.cell 3
  have c4 : _ = some (Value.slice AL T.lens.length cL) := hlog.cell 4
  have c5 : _ = some (Value.slice AF T.firsts.length cF) := hlog.cell 5
  have fl := fun k => hlog.frozen k
  have hlt := hlog.lt
  go_simp
  refine hK _ _ (fun h => absurd (by simp) h) ?_
  clear hK K
  have hS6 := Lib.hid (Now.set_ (pre:=[_,_,_]) (Now.set_ (pre:=[_,_,_]) (Now.set_ (pre:=[_,_,_]) (Now.set_ (pre:=[_,_,_]) (Now.set_ (pre:=[_,_,_]) hS5 1 (.int .i64 (T.roll f (lsn + 1)).segs)) 2 (.int .i64 (T.roll f (lsn + 1)).slots)) 3 (.slice B1 (T.roll f (lsn + 1)).order.length l1)) 4 (.slice B2 (T.roll f (lsn + 1)).lens.length l2)) 5 (.slice B3 (T.roll f (lsn + 1)).firsts.length l3))
  clear hlog c1 c2 c3 c4 c5 fl hlt hS5
  generalize ((((w1.setCell ⟨g,1,none⟩ (.int .i64 (T.roll f (lsn + 1)).segs)).setCell ⟨g,2,none⟩ (.int .i64 (T.roll f (lsn + 1)).slots)).setCell ⟨g,3,none⟩ (.slice B1 (T.roll f (lsn + 1)).order.length l1)).setCell ⟨g,4,none⟩ (.slice B2 (T.roll f (lsn + 1)).lens.length l2)).setCell ⟨g,5,none⟩ (.slice B3 (T.roll f (lsn + 1)).firsts.length l3) = w6 at hS6 ⊢
  clear h1 w1
  apply wpAnyE_pure (KeepG.grow g) 16
  · kernel_rfl
  · intro _ _ d _ _ h;cases d <;> exact h
  · exact rfl
  · kernel_rfl
  · intro w1
    go_simp
    exact ⟨rfl,sqN _⟩
  try simp only [Act.put,sqA,sqB,sqC]
  refine wpAnyE_end (by kernel_rfl) fun w10 h10 => ?_
  refine post_intro ?_
  have hS7 := Now.below hS6.out h10
  clear h10 hS6
  go_wp2_with (go_at_call 102;(with_reducible refine (lmust_yes _).mono ?_);rintro e w2 ⟨rfl,rfl⟩)
  go_end0
  exact ⟨fun _ => ⟨rfl,B1,l1,B2,l2,B3,l3,Now.front (pre:=[_,_,_]) (Now.drop (pre:=[_,_,_,_,_]) (Now.drop (pre:=[_,_,_,_,_]) (Now.drop (pre:=[_,_,_,_,_]) (Now.drop (pre:=[_,_,_,_,_]) (Now.drop (pre:=[_,_,_,_]) (Now.drop (pre:=[_,_,_,_]) (Now.drop (pre:=[_,_,_,_]) hS7)))))))⟩,fun x hx h => absurd (h.symm.trans HWE.out) hx⟩
end Go.Proofs.YtidacaihmjdmkaaGreat
namespace Go.Proofs.YtidacaihmjdmkaaGreat
open Go.RowKit
attribute [local go_sem high] run_mx run_mn
def rollE (d : Dsk) (T : Tab) (lsn epoch f : Int) : Int := d.writeE T.at_ (footR lsn epoch f).sector
structure LSt where
  T : Tab
  lsn : Int
  gen : Int
  d : Dsk
def LSt.seal (s : LSt) (epoch : Int) : Int × LSt :=
  match s.T.freeTo s.T.segs.toNat with
  | [] => (10,s)
  | f :: _ => if rollE s.d s.T s.lsn epoch f = 0 then (0,⟨s.T.roll f (s.lsn + 1),s.lsn + 1,s.gen,s.d.writeS s.T.at_ (footR s.lsn epoch f).sector⟩) else (rollE s.d s.T s.lsn epoch f,s)
def LSt.parts (s : LSt) (g gd : Nat) (epoch : Int) (AO : Option Addr) (cO : Nat) (AL : Option Addr) (cL : Nat) (AF : Option Addr) (cF : Nat) : List Thing := logParts g gd s.T AO cO AL cL AF cF s.lsn epoch s.gen s.d
structure LSt.Ok (s : LSt) : Prop where
  t : s.T.Ok
  lsn : 1 ≤ s.lsn ∧ s.lsn < 1000000
  gen : 0 ≤ s.gen ∧ s.gen < 1000000
  pend : s.d.pend.length ≤ 100000
theorem Tab.Ok.segsN {T : Tab} (h : T.Ok) : T.segs = (T.segs.toNat : Nat) := by have := h.segs;omega
theorem roll_any (s : LSt) (hs : s.Ok) (g gd : Nat) (epoch : Int) (he : 0 ≤ epoch ∧ epoch < 4294967296) (AO : Option Addr) (cO : Nat) (AL : Option Addr) (cL : Nat) (AF : Option Addr) (cF : Nat)
    {S0 : Nat → Prop} {w0 w : World} {L : List Thing} (hS : Now S0 w0 w (s.parts g gd epoch AO cO AL cL AF cF ++ L)) :
    Calls Tryz.prog 99 #[.pointer (some ⟨g,0,none⟩)] w fun e w' =>
      ((s.seal epoch).1 = 0 → e = .returned (.tuple #[]) ∧ ∃ A1 k1 A2 k2 A3 k3,Now S0 w0 w' ((s.seal epoch).2.parts g gd epoch A1 k1 A2 k2 A3 k3 ++ L)) ∧
      (∀ x,x ≠ 0 → (s.seal epoch).1 = x → e = .panicked [{ v := stopV x,recovered := false }] ∧ Now S0 w0 w' ((s.seal epoch).2.parts g gd epoch AO cO AL cL AF cF ++ L)) := by
  obtain ⟨T,lsn,gen,d⟩ := s
  have hN := hs.t.segsN
  have hT := hs.t
  have hl := hs.lsn
  have hp := hs.pend
  cases hf : T.freeTo T.segs.toNat with
  | nil =>
    have e : LSt.seal ⟨T,lsn,gen,d⟩ epoch = (10,⟨T,lsn,gen,d⟩) := by unfold LSt.seal;dsimp only;rw [hf]
    rw [e]
    exact (roll_full g gd T hT AO cO AL cL AF cF lsn epoch gen d _ hN hf hS).mono fun e w' h => ⟨fun h0 => absurd (show (10 : Int) = 0 from h0) (by decide),fun x _ hx => by subst hx;exact h⟩
  | cons f l =>
    have e : LSt.seal ⟨T,lsn,gen,d⟩ epoch = if rollE d T lsn epoch f = 0 then (0,⟨T.roll f (lsn + 1),lsn + 1,gen,d.writeS T.at_ (footR lsn epoch f).sector⟩) else (rollE d T lsn epoch f,⟨T,lsn,gen,d⟩) := by unfold LSt.seal;dsimp only;rw [hf]
    rw [e]
    refine (roll_free g gd T hT AO cO AL cL AF cF lsn epoch gen d (by show d.pend.length ≤ _;exact Nat.le_trans hp (by decide)) ⟨hl.1,by have h2 : lsn < 1000000 := hl.2;omega⟩ he _ hN f l hf hS).mono fun e w' h => ?_
    by_cases h0 : rollE d T lsn epoch f = 0
    · rw [if_pos h0]
      exact ⟨fun _ => h.1 h0,fun x hx h1 => absurd h1.symm hx⟩
    · rw [if_neg h0]
      exact ⟨fun h1 => absurd h1 h0,fun x hx h1 => h.2 x hx h1⟩
set_option maxHeartbeats 8000000 in
theorem Seal_any (s : LSt) (hs : s.Ok) (g gd : Nat) (epoch : Int) (he : 0 ≤ epoch ∧ epoch < 4294967296) (AO : Option Addr) (cO : Nat) (AL : Option Addr) (cL : Nat) (AF : Option Addr) (cF : Nat)
    {S0 : Nat → Prop} {w0 w : World} {L : List Thing} (hS : Now S0 w0 w (s.parts g gd epoch AO cO AL cL AF cF ++ L)) :
    Calls Tryz.prog 39 #[.pointer (some ⟨g,0,none⟩)] w fun e w' => e = .returned (.int .i64 (s.seal epoch).1) ∧ ∃ A1 k1 A2 k2 A3 k3,Now S0 w0 w' ((s.seal epoch).2.parts g gd epoch A1 k1 A2 k2 A3 k3 ++ L) := by
  have hS1 := Now.back (pre:=s.parts g gd epoch AO cO AL cL AF cF) (Now.pushCells hS 31 #[.int .i64 0])
  have hr := roll_any s hs g gd epoch he AO cO AL cL AF cF hS1
  generalize s.seal epoch = r at *
  obtain ⟨x,s'⟩ := r
  clear hS hS1 hs
  go_enter_defers Tryz.func39,Tryz.ntmps39
  by_cases h0 : x = 0
  · subst h0
    replace hr := hr.mono (fun e w' h => h.1 rfl)
    go_wp2_with (go_at_call 99;refine hr.mono ?_;rintro e w1 ⟨rfl,A1,k1,A2,k2,A3,k3,hS2⟩;have heb := Now.blk hS2;have ce : w1.cell? ⟨w.heap.size,0,none⟩ = some (.int .i64 0) := heb.cell 0;have fe := heb.frozen 0;clear hr heb)
    have hS3 := Now.set_ hS2 0 (.int .i64 0)
    exact lcaught_fine (p := 2) rfl hS3 rfl rfl (fun w' h => ⟨rfl,A1,k1,A2,k2,A3,k3,Now.drop h⟩)
  · replace hr := hr.mono (fun e w' h => h.2 x h0 rfl)
    go_wp2_with (go_at_call 99;refine hr.mono ?_;rintro e w1 ⟨rfl,hS2⟩;clear hr)
    exact lcaught_end (p := 2) rfl hS2 rfl rfl (fun w' h => ⟨rfl,AO,cO,AL,cL,AF,cF,Now.drop h⟩)
end Go.Proofs.YtidacaihmjdmkaaGreat
namespace Go.Proofs.YtidacaihmjdmkaaGreat
open Go.RowKit
theorem idx_mem {l : List Int} {x : Int} (h : x ∈ l) : 0 ≤ idx l x := by
  induction l with
  | nil => cases h
  | cons y l ih =>
    unfold idx
    split
    · omega
    · rename_i hne
      have := ih (by rcases List.mem_cons.1 h with h | h;exact absurd h hne;exact h)
      split <;> omega
theorem idx_neg {l : List Int} {x : Int} (h : idx l x < 0) : ¬ x ∈ l := fun hm => by have := idx_mem hm;omega
theorem idx_nodup {l : List Int} (hn : l.Nodup) {k : Nat} {x : Int} (hk : l[k]? = some x) : idx l x = k := by
  refine idx_at hk fun j hj he => ?_
  obtain ⟨h1,e1⟩ := List.getElem?_eq_some_iff.1 he
  obtain ⟨h2,e2⟩ := List.getElem?_eq_some_iff.1 hk
  exact (List.pairwise_iff_getElem.1 hn) j k h1 h2 hj (e1.trans e2.symm)
theorem Tab.open_at (T : Tab) (hT : T.Ok) : T.order[T.order.length - 1]? = some T.open_ := by
  have hp := hT.pos
  have e : T.order[T.order.length - 1]? = some T.order[T.order.length - 1] := List.getElem?_eq_getElem (by omega)
  unfold Tab.open_
  rw [e]
  rfl
theorem Tab.len_open (T : Tab) (hT : T.Ok) : T.len T.open_ = T.last := by
  have hp := hT.pos
  have hl := hT.len
  have e := idx_nodup hT.nodup (T.open_at hT)
  unfold Tab.len Tab.last
  rw [e,if_pos (by omega),Int.toNat_natCast,hl]
theorem freeTo_mem (T : Tab) (k : Nat) (x : Int) : x ∈ T.freeTo k ↔ (0 ≤ x ∧ x < k) ∧ idx T.order x < 0 := by
  unfold Tab.freeTo
  rw [List.mem_filter,List.mem_map]
  constructor
  · rintro ⟨⟨i,hi,rfl⟩,h⟩
    have := List.mem_range.1 hi
    exact ⟨by omega,by simpa using h⟩
  · rintro ⟨h1,h2⟩
    exact ⟨⟨x.toNat,List.mem_range.2 (by omega),by omega⟩,by simpa using h2⟩
theorem Tab.roll_ok (T : Tab) (hT : T.Ok) {f : Int} (hf : (0 ≤ f ∧ f < T.segs) ∧ idx T.order f < 0) {first : Int} (h1 : 0 ≤ first ∧ first < 18446744073709551616) : (T.roll f first).Ok := by
  have hsg := hT.segs
  have hsl := hT.slots
  have hl := hT.len
  have hfs := hT.fst
  have hp := hT.pos
  have hni := idx_neg hf.2
  have hnd : (T.order ++ [f]).Nodup := by
    rw [List.nodup_append]
    refine ⟨hT.nodup,by simp,fun a ha b hb e => ?_⟩
    have : b = f := by simpa using hb
    exact hni (by rw [← this, ← e];exact ha)
  have hin : ∀ s ∈ T.order ++ [f],0 ≤ s ∧ s < T.segs := fun s hs => by
    rcases List.mem_append.1 hs with h | h
    · exact hT.inn s h
    · have : s = f := by simpa using h
      rw [this];exact hf.1
  have hle := nodup_le T.segs.toNat (T.order ++ [f]) hnd (fun x hx => by have := hin x hx;omega)
  refine ⟨hsg,hsl,by show 1 ≤ (T.order ++ [f]).length;simp,by show (T.order ++ [f]).length ≤ 16;omega,by show (T.lens ++ [0]).length = (T.order ++ [f]).length;simp [hl],by show (T.firsts ++ [first]).length = (T.order ++ [f]).length;simp [hfs],hin,hnd,fun l hl' => ?_,fun x hx => ?_⟩
  · rcases List.mem_append.1 hl' with h | h
    · exact hT.lens l h
    · have : l = 0 := by simpa using h
      show 0 ≤ l ∧ l ≤ T.slots
      omega
  · rcases List.mem_append.1 hx with h | h
    · exact hT.firsts x h
    · have : x = first := by simpa using h
      rw [this];exact h1
theorem Tab.roll_last (T : Tab) (f first : Int) : (T.roll f first).last = 0 := by simp [Tab.last,Tab.roll]
theorem Tab.roll_open (T : Tab) (f first : Int) : (T.roll f first).open_ = f := by simp [Tab.open_,Tab.roll]
theorem Tab.count_ok (T : Tab) (hT : T.Ok) (h : T.last < T.slots) : T.count.Ok := by
  obtain ⟨h1,h2,h3⟩ := hT.last
  refine ⟨hT.segs,hT.slots,hT.pos,hT.many,by show (T.lens.set _ _).length = T.order.length;rw [List.length_set];exact hT.len,hT.fst,hT.inn,hT.nodup,fun l hl => ?_,hT.firsts⟩
  rcases List.mem_or_eq_of_mem_set hl with h' | h'
  · exact hT.lens l h'
  · show 0 ≤ l ∧ l ≤ T.slots
    omega
theorem Tab.count_last (T : Tab) (hT : T.Ok) : T.count.last = T.last + 1 := by
  have hp := hT.pos
  have hl := hT.len
  unfold Tab.last Tab.count
  simp only [List.length_set]
  rw [List.getElem?_set_self (by omega)]
  rfl
theorem Tab.count_open (T : Tab) : T.count.open_ = T.open_ := rfl
theorem filter_length_add (p : Int → Bool) (l : List Int) : (l.filter p).length + (l.filter fun x => !p x).length = l.length := by
  induction l with
  | nil => rfl
  | cons x l ih =>
    cases hp : p x <;> simp [hp] <;> omega
theorem Tab.free_length (T : Tab) (hT : T.Ok) (N : Nat) (hN : T.segs = N) : (T.freeTo N).length + T.order.length = N := by
  have hall : ((List.range N).map fun i : Nat => (i : Int)).length = N := by simp
  have h1 := filter_length_add (fun s => decide (idx T.order s < 0)) ((List.range N).map fun i : Nat => (i : Int))
  rw [hall] at h1
  have hnd : ((List.range N).map fun i : Nat => (i : Int)).Nodup := by
    refine List.pairwise_map.2 (List.Pairwise.imp (fun {a b} (h : a ≠ b) => ?_) List.nodup_range)
    show (a : Int) ≠ (b : Int)
    omega
  have hperm : (((List.range N).map fun i : Nat => (i : Int)).filter fun x => !decide (idx T.order x < 0)).Perm T.order := by
    refine (List.perm_ext_iff_of_nodup (hnd.filter _) hT.nodup).2 fun x => ?_
    rw [List.mem_filter,List.mem_map]
    constructor
    · rintro ⟨_,h⟩
      have h2 : ¬ idx T.order x < 0 := by simpa using h
      exact List.mem_of_getElem? (idx_some (by omega))
    · intro hx
      have h2 := hT.inn x hx
      have h3 := idx_mem hx
      exact ⟨⟨x.toNat,List.mem_range.2 (by omega),by omega⟩,by simpa using h3⟩
  have h3 := hperm.length_eq
  unfold Tab.freeTo
  omega
theorem Tab.room_none (T : Tab) (hT : T.Ok) : T.room = 0 ↔ T.last = T.slots ∧ T.freeTo T.segs.toNat = [] := by
  have hsg := hT.segs
  have hsl := hT.slots
  obtain ⟨h1,h2,h3⟩ := hT.last
  have hf := T.free_length hT T.segs.toNat (by omega)
  have hle := hT.le_segs
  have e : T.room = T.slots - T.last + T.slots * (T.segs - T.order.length) := rfl
  obtain ⟨k,hk⟩ : ∃ k : Nat,T.segs - T.order.length = k := ⟨(T.segs - T.order.length).toNat,by omega⟩
  rw [hk] at e
  have hfk : (T.freeTo T.segs.toNat).length = k := by omega
  have hm : 0 ≤ T.slots * (k : Int) := Int.mul_nonneg (by omega) (by omega)
  constructor
  · intro h0
    have hk0 : T.slots * (k : Int) = 0 := by omega
    rcases Int.mul_eq_zero.1 hk0 with h | h
    · omega
    · exact ⟨by omega,List.eq_nil_of_length_eq_zero (by omega)⟩
  · rintro ⟨ha,hb⟩
    rw [hb] at hfk
    have : k = 0 := by simpa using hfk.symm
    subst this
    rw [e,ha]
    simp
end Go.Proofs.YtidacaihmjdmkaaGreat
namespace Go.Proofs.YtidacaihmjdmkaaGreat
open Go.RowKit
open Ieee
theorem d_sw : Ieee.double.signWeight = 9223372036854775808 := rfl
theorem d_bin : Ieee.double.binade = 4503599627370496 := rfl
theorem d_inf : Ieee.double.infRung = 9218868437227405312 := rfl
theorem d_lp : Ieee.double.leastPlace = -1074 := rfl
theorem d_fb : Ieee.double.fractionBits = 52 := rfl
def kindB (b : Nat) : Int :=
  if b % 9223372036854775808 > 9218868437227405312 then 0
  else if b % 9223372036854775808 = 9218868437227405312 then (if 9223372036854775808 ≤ b then 1 else 6)
  else if b % 9223372036854775808 = 0 then (if 9223372036854775808 ≤ b then 3 else 4)
  else if 9223372036854775808 ≤ b then 2 else 5
theorem d_neg (b : Nat) (hb : b < 18446744073709551616) : (b / 9223372036854775808 % 2 == 1) = decide (9223372036854775808 ≤ b) := by
  by_cases h : 9223372036854775808 ≤ b
  · have : b / 9223372036854775808 = 1 := by omega
    rw [this,decide_eq_true h];rfl
  · have : b / 9223372036854775808 = 0 := by omega
    rw [this,decide_eq_false h];rfl
def magB (b : Nat) : Nat := if b % 9223372036854775808 < 4503599627370496 then b % 9223372036854775808 else 4503599627370496 + b % 9223372036854775808 % 4503599627370496
def upB (b : Nat) : Nat := if b % 9223372036854775808 < 4503599627370496 then 0 else b % 9223372036854775808 / 4503599627370496 - 1
theorem read_num (b : Nat) (hb : b < 18446744073709551616) (h : b % 9223372036854775808 < 9218868437227405312) : Ieee.double.read b = .number (decide (9223372036854775808 ≤ b)) (magB b) (-1074 + (upB b : Nat)) := by
  unfold Format.read magB upB
  simp only [d_sw,d_bin,d_inf,d_lp,d_neg b hb]
  by_cases h1 : b % 9223372036854775808 < 4503599627370496
  · rw [if_pos h1,if_pos h1,if_pos h1];simp
  · rw [if_neg h1,if_neg h1,if_neg h1,if_pos h]
theorem read_inf (b : Nat) (hb : b < 18446744073709551616) (h : b % 9223372036854775808 = 9218868437227405312) : Ieee.double.read b = .infinity (decide (9223372036854775808 ≤ b)) := by
  unfold Format.read
  simp only [d_sw,d_bin,d_inf,d_lp,d_neg b hb,h]
  simp
theorem read_nan (b : Nat) (hb : b < 18446744073709551616) (h : 9218868437227405312 < b % 9223372036854775808) : ∃ s t,Ieee.double.read b = .nan s t := by
  unfold Format.read
  simp only [d_sw,d_bin,d_inf,d_lp,d_neg b hb]
  rw [if_neg (by omega),if_neg (by omega),if_neg (by omega)]
  exact ⟨_,_,rfl⟩
theorem mag_bound (b : Nat) (h : b % 9223372036854775808 < 9218868437227405312) : magB b ≤ 9007199254740991 ∧ upB b ≤ 2045 := by
  unfold magB upB
  split <;> omega
theorem mag_zero (b : Nat) : magB b = 0 ↔ b % 9223372036854775808 = 0 := by
  unfold magB
  split <;> omega
theorem order_num (m n : Nat) (s t : Bool) (i j : Int) : Datum.order (.number s m i) (.number t n j) = some (compare (signed s m (i - min i j).toNat) (signed t n (j - min i j).toNat)) := rfl
theorem cmp_int (x y : Int) : compare x y = if x < y then .lt else if x = y then .eq else .gt := rfl
theorem cmp_lt {x y : Int} (h : x < y) : compare x y = .lt := by rw [cmp_int,if_pos h]
theorem cmp_gt {x y : Int} (h : y < x) : compare x y = .gt := by rw [cmp_int,if_neg (by omega),if_neg (by omega)]
theorem cmp_self (x : Int) : compare x x = .eq := by rw [cmp_int,if_neg (by omega),if_pos rfl]
theorem of_cmp_gt {x y : Int} (h : compare x y = .gt) : y < x := by
  rw [cmp_int] at h
  split at h
  · cases h
  · split at h
    · cases h
    · omega
theorem signed_zero (s : Bool) (m k : Nat) (h : m = 0) : signed s m k = 0 := by subst h;unfold signed;cases s <;> simp
theorem signed_pos (m k : Nat) (h : m ≠ 0) : 0 < signed false m k := by
  unfold signed
  have : 0 < m <<< k := by rw [Nat.shiftLeft_eq];exact Nat.mul_pos (by omega) (Nat.pow_pos (by omega))
  rw [Nat.shiftLeft_eq] at *
  simp only [if_true,if_false,Bool.false_eq_true]
  omega
theorem signed_neg (m k : Nat) (h : m ≠ 0) : signed true m k < 0 := by
  unfold signed
  have : 0 < m <<< k := by rw [Nat.shiftLeft_eq];exact Nat.mul_pos (by omega) (Nat.pow_pos (by omega))
  rw [Nat.shiftLeft_eq] at *
  simp only [if_true,if_false,Bool.false_eq_true]
  omega
theorem order_zero (b : Nat) (hb : b < 18446744073709551616) (h : b % 9223372036854775808 < 9218868437227405312) :
    Ieee.double.order b 0 = some (if b % 9223372036854775808 = 0 then .eq else if 9223372036854775808 ≤ b then .lt else .gt) := by
  have h0 : Ieee.double.read 0 = .number false 0 (-1074) := by rw [read_num 0 (by omega) (by omega)];rfl
  unfold Format.order
  rw [read_num b hb h,h0,order_num]
  rw [signed_zero false 0 _ rfl]
  by_cases hz : b % 9223372036854775808 = 0
  · rw [if_pos hz,signed_zero _ _ _ ((mag_zero b).2 hz)];rfl
  · have hm : magB b ≠ 0 := fun h => hz ((mag_zero b).1 h)
    rw [if_neg hz]
    by_cases hn : 9223372036854775808 ≤ b
    · rw [if_pos hn,decide_eq_true hn,cmp_lt (signed_neg _ _ hm)]
    · rw [if_neg hn,decide_eq_false hn,cmp_gt (signed_pos _ _ hm)]
theorem order_self (b : Nat) (hb : b < 18446744073709551616) (h : b % 9223372036854775808 ≤ 9218868437227405312) : Ieee.double.order b b = some .eq := by
  unfold Format.order
  by_cases h1 : b % 9223372036854775808 < 9218868437227405312
  · rw [read_num b hb h1,order_num,cmp_self]
  · rw [read_inf b hb (by omega)]
    cases decide (9223372036854775808 ≤ b) <;> rfl
theorem order_nan (b c : Nat) (hb : b < 18446744073709551616) (h : 9218868437227405312 < b % 9223372036854775808) : Ieee.double.order b c = none := by
  obtain ⟨s,t,e⟩ := read_nan b hb h
  unfold Format.order
  rw [e]
  rfl
theorem order_inf (b c : Nat) (hb : b < 18446744073709551616) (h : b % 9223372036854775808 = 9218868437227405312) (hc : c % 9223372036854775808 < 9218868437227405312) (hc2 : c < 18446744073709551616) :
    Ieee.double.order b c = some (if 9223372036854775808 ≤ b then .lt else .gt) := by
  unfold Format.order
  rw [read_inf b hb h,read_num c hc2 hc]
  show some (if decide (9223372036854775808 ≤ b) = true then _ else _) = _
  by_cases hn : 9223372036854775808 ≤ b
  · rw [if_pos hn,if_pos (decide_eq_true hn)]
  · rw [if_neg hn,if_neg (by simpa using hn)]
theorem order_max (b : Nat) (hb : b < 18446744073709551616) (h : b % 9223372036854775808 < 9218868437227405312) : Ieee.double.order b 9218868437227405311 ≠ some .gt := by
  have h0 : Ieee.double.read 9218868437227405311 = .number false 9007199254740991 (-1074 + (2045 : Nat)) := by rw [read_num _ (by omega) (by omega)];rfl
  obtain ⟨hm,hu⟩ := mag_bound b h
  unfold Format.order
  rw [read_num b hb h,h0,order_num]
  have e1 : min (-1074 + (upB b : Int)) (-1074 + (2045 : Nat)) = -1074 + (upB b : Int) := by omega
  rw [e1]
  have e2 : (-1074 + (upB b : Int) - (-1074 + (upB b : Int))).toNat = 0 := by omega
  have e3 : (-1074 + ((2045 : Nat) : Int) - (-1074 + (upB b : Int))).toNat = 2045 - upB b := by omega
  rw [e2,e3]
  intro hc
  have hc1 := of_cmp_gt (Option.some.inj hc)
  have h1 : signed (decide (9223372036854775808 ≤ b)) (magB b) 0 ≤ (magB b : Int) := by
    unfold signed
    simp
    split <;> omega
  have h2 : ((9007199254740991 : Nat) : Int) ≤ signed false 9007199254740991 (2045 - upB b) := by
    unfold signed
    rw [Nat.shiftLeft_eq]
    have : 0 < 2 ^ (2045 - upB b) := Nat.pow_pos (by omega)
    have h3 : 9007199254740991 * 1 ≤ 9007199254740991 * 2 ^ (2045 - upB b) := Nat.mul_le_mul_left _ this
    simp only [Bool.false_eq_true,if_false]
    omega
  have : signed false 9007199254740991 (2045 - upB b) < signed (decide (9223372036854775808 ≤ b)) (magB b) 0 := hc1
  omega
theorem log2_mul (m k : Nat) (hm : m ≠ 0) : (m * 2 ^ k).log2 = m.log2 + k := by
  have h1 : 0 < m * 2 ^ k := Nat.mul_pos (by omega) (Nat.pow_pos (by omega))
  refine (Nat.log2_eq_iff (by omega)).2 ⟨?_,?_⟩
  · rw [Nat.pow_add];exact Nat.mul_le_mul_right _ (Nat.log2_self_le hm)
  · have := (Nat.log2_lt hm).1 (Nat.lt_succ_self m.log2)
    rw [show m.log2 + k + 1 = (m.log2 + 1) + k by omega,Nat.pow_add]
    exact (Nat.mul_lt_mul_right (Nat.pow_pos (by omega))).2 this
theorem cut_fit (way : Toward) (neg : Bool) (m k : Nat) (hm : m ≠ 0) : way.cut neg (m * 2 ^ k) k = m := by
  unfold Toward.cut
  rw [log2_mul m k hm,Nat.min_eq_left (by omega),Nat.shiftLeft_eq,Nat.one_mul]
  have hp : 0 < 2 ^ k := Nat.pow_pos (by omega)
  have h1 : m * 2 ^ k / 2 ^ k = m := Nat.mul_div_cancel _ hp
  have h2 : m * 2 ^ k % 2 ^ k = 0 := Nat.mul_mod_left _ _
  have h3 : (2 ^ k == 0) = false := beq_eq_false_iff_ne.2 (by omega)
  cases way <;> simp [h1,h2,h3]
theorem nearest_fit (b : Nat) (hb : b < 18446744073709551616) (h : b % 9223372036854775808 < 9218868437227405312) : Ieee.double.nearest (decide (9223372036854775808 ≤ b)) (magB b * 2 ^ 52) (-1074 + (upB b : Nat) - 52) = b := by
  have hw : ∀ r,r = b % 9223372036854775808 → Ieee.double.word (decide (9223372036854775808 ≤ b)) r = b := fun r hr => by
    unfold Format.word
    rw [d_sw,hr]
    by_cases hn : 9223372036854775808 ≤ b
    · rw [if_pos (decide_eq_true hn)];omega
    · rw [if_neg (by simpa using hn)];omega
  unfold Format.nearest
  by_cases hz : b % 9223372036854775808 = 0
  · have hm : magB b = 0 := (mag_zero b).2 hz
    rw [hm,Nat.zero_mul,if_pos rfl]
    exact hw 0 hz.symm
  have hm : magB b ≠ 0 := fun h => hz ((mag_zero b).1 h)
  have hm2 : magB b * 2 ^ 52 ≠ 0 := Nat.mul_ne_zero hm (by decide)
  rw [if_neg hm2,log2_mul _ _ hm,d_fb,d_lp,d_bin,d_inf]
  have hl : max (-1074 + ((upB b : Nat) : Int) - 52 + ((magB b).log2 + 52 : Nat) - (52 : Nat)) (-1074) = -1074 + (upB b : Nat) := by
    by_cases h1 : b % 9223372036854775808 < 4503599627370496
    · have hu : upB b = 0 := by unfold upB;rw [if_pos h1]
      have hmb : magB b = b % 9223372036854775808 := by unfold magB;rw [if_pos h1]
      have : (magB b).log2 < 52 := (Nat.log2_lt hm).2 (by rw [hmb];exact h1)
      rw [hu];omega
    · have hmb : magB b = 4503599627370496 + b % 9223372036854775808 % 4503599627370496 := by unfold magB;rw [if_neg h1]
      have : (magB b).log2 = 52 := (Nat.log2_eq_iff hm).2 ⟨by rw [hmb];show 4503599627370496 ≤ _;omega,by rw [hmb];show _ < 9007199254740992;omega⟩
      omega
  simp only [hl]
  have e1 : (-1074 + ((upB b : Nat) : Int) - 52 - (-1074 + (upB b : Nat))).toNat = 0 := by omega
  have e2 : (-1074 + ((upB b : Nat) : Int) - (-1074 + (upB b : Nat) - 52)).toNat = 52 := by omega
  have e3 : (-1074 + ((upB b : Nat) : Int) - (-1074)).toNat = upB b := by omega
  rw [e1,e2,e3,Nat.shiftLeft_zero,cut_fit _ _ _ _ hm]
  refine hw _ ?_
  unfold upB magB
  split <;> omega
theorem mul_one_ (b : Nat) (hb : b < 18446744073709551616) (h : b % 9223372036854775808 < 9218868437227405312) : Ieee.double.mul b 4607182418800017408 = some b := by
  have h0 : Ieee.double.read 4607182418800017408 = .number false (2 ^ 52) (-52) := by rw [read_num _ (by omega) (by omega)];rfl
  unfold Format.mul
  rw [read_num b hb h,h0]
  show some (Ieee.double.nearest (decide (9223372036854775808 ≤ b) ^^ false) (magB b * 2 ^ 52) (-1074 + (upB b : Nat) + -52)) = some b
  rw [Bool.xor_false]
  exact congrArg some (nearest_fit b hb h)
theorem order_one (b : Nat) (h : b % 9223372036854775808 < 9218868437227405312) (hn : b < 9223372036854775808) (hc : Ieee.double.order b 4607182418800017408 ≠ some .gt) : b ≤ 4607182418800017408 := by
  have hb : b < 18446744073709551616 := by omega
  rcases Nat.lt_or_ge 4607182418800017408 b with hlt | hle
  · exfalso
    refine hc ?_
    have h0 : Ieee.double.read 4607182418800017408 = .number false 4503599627370496 (-1074 + (1022 : Nat)) := by rw [read_num _ (by omega) (by omega)];rfl
    have hmod : b % 9223372036854775808 = b := Nat.mod_eq_of_lt hn
    have hu : upB b = b / 4503599627370496 - 1 := by unfold upB;rw [hmod,if_neg (by omega)]
    have hm : magB b = 4503599627370496 + b % 4503599627370496 := by unfold magB;rw [hmod,if_neg (by omega)]
    have hu2 : 1022 ≤ upB b := by rw [hu];omega
    unfold Format.order
    rw [read_num b hb h,h0,order_num]
    have e1 : min (-1074 + (upB b : Int)) (-1074 + (1022 : Nat)) = -1074 + (1022 : Nat) := by omega
    rw [e1]
    have e2 : (-1074 + (upB b : Int) - (-1074 + (1022 : Nat))).toNat = upB b - 1022 := by omega
    have e3 : (-1074 + ((1022 : Nat) : Int) - (-1074 + (1022 : Nat))).toNat = 0 := by omega
    rw [e2,e3,decide_eq_false (by omega)]
    refine congrArg some (cmp_gt ?_)
    unfold signed
    simp only [Bool.false_eq_true,if_false,Nat.shiftLeft_eq,Nat.pow_zero,Nat.mul_one]
    by_cases he : upB b = 1022
    · rw [he,Nat.sub_self,Nat.pow_zero,Nat.mul_one,hm]
      omega
    · have h2 : 2 ^ 1 ≤ 2 ^ (upB b - 1022) := Nat.pow_le_pow_right (by omega) (by omega)
      have h3 : magB b * 2 ^ 1 ≤ magB b * 2 ^ (upB b - 1022) := Nat.mul_le_mul_left _ h2
      rw [hm] at h3 ⊢
      omega
  · exact hle
def floorB (b : Nat) : Nat := Ieee.double.write ((Ieee.double.read b).integral .down)
theorem cut_small (m k : Nat) (h : m < 2 ^ k) : Toward.down.cut false m k = 0 := by
  unfold Toward.cut
  have hg : m < 1 <<< min k (m.log2 + 2) := by
    rw [Nat.shiftLeft_eq,Nat.one_mul]
    rcases Nat.le_total k (m.log2 + 2) with h1 | h1
    · rw [Nat.min_eq_left h1];exact h
    · rw [Nat.min_eq_right h1]
      exact Nat.lt_of_lt_of_le Nat.lt_log2_self (Nat.pow_le_pow_right (by omega) (by omega))
  simp only [Nat.div_eq_of_lt hg,Bool.false_and,Bool.toNat_false]
theorem floor_small (b : Nat) (hn : b < 4607182418800017408) : floorB b = 0 := by
  have hmod : b % 9223372036854775808 = b := Nat.mod_eq_of_lt (by omega)
  unfold floorB
  rw [read_num b (by omega) (by omega),decide_eq_false (by omega)]
  have hu : upB b ≤ 1021 := by unfold upB;rw [hmod];split <;> omega
  have hm : magB b < 9007199254740992 := by unfold magB;rw [hmod];split <;> omega
  have e1 : (-1074 + ((upB b : Nat) : Int)).toNat = 0 := by omega
  have e2 : (-(-1074 + ((upB b : Nat) : Int))).toNat = 1074 - upB b := by omega
  show Ieee.double.write (.number false (Toward.down.cut false (magB b <<< (-1074 + ((upB b : Nat) : Int)).toNat) (-(-1074 + ((upB b : Nat) : Int))).toNat) 0) = 0
  rw [e1,e2,Nat.shiftLeft_zero,cut_small]
  · rfl
  · exact Nat.lt_of_lt_of_le hm (show 2 ^ 53 ≤ 2 ^ (1074 - upB b) from Nat.pow_le_pow_right (by omega) (by omega))
theorem floor_one : floorB 4607182418800017408 = 4607182418800017408 := by decide
theorem floor_minus : floorB 9223372036854775808 = 9223372036854775808 := by decide
end Go.Proofs.YtidacaihmjdmkaaGreat
namespace Go.Proofs.YtidacaihmjdmkaaGreat
open Go.RowKit
attribute [local go_sem high] run_mx run_mn
theorem flip (b : Nat) (hb : b < 18446744073709551616) : b ^^^ 9223372036854775808 < 18446744073709551616 ∧ (b ^^^ 9223372036854775808) % 9223372036854775808 = b % 9223372036854775808 ∧ (9223372036854775808 ≤ b ^^^ 9223372036854775808 ↔ ¬ 9223372036854775808 ≤ b) := by
  have h1 : (b ^^^ 2 ^ 63) % 2 ^ 63 = b % 2 ^ 63 := by rw [Nat.xor_mod_two_pow,Nat.mod_self,Nat.xor_zero]
  have h2 : (b ^^^ 2 ^ 63) / 2 ^ 63 = b / 2 ^ 63 ^^^ 1 := by rw [Nat.xor_div_two_pow,Nat.div_self (Nat.pow_pos (by omega))]
  have h3 : b / 2 ^ 63 = 0 ∨ b / 2 ^ 63 = 1 := by omega
  have h4 : (b ^^^ 2 ^ 63) / 2 ^ 63 = 1 - b / 2 ^ 63 := by
    rw [h2]
    rcases h3 with h | h <;> rw [h] <;> rfl
  show b ^^^ 2 ^ 63 < 18446744073709551616 ∧ (b ^^^ 2 ^ 63) % 9223372036854775808 = b % 9223372036854775808 ∧ (9223372036854775808 ≤ b ^^^ 2 ^ 63 ↔ ¬ 9223372036854775808 ≤ b)
  generalize b ^^^ 2 ^ 63 = c at *
  omega
theorem run_f64bits (b : Nat) (w : World) : (callFunc 145 #[.float .f64 b]).run Tryz.prog w = .ok (.value (.int .u64 b)) w := by
  rw [run_callFunc_extern Tryz.func145 (by kernel_rfl) (by kernel_rfl) (by kernel_rfl) (e := Extern.MathFloatBits.float64bits) (by kernel_rfl)]
  rfl
theorem run_archFloor (b : Nat) (hb : b < 18446744073709551616) (h : b % 9223372036854775808 < 9218868437227405312) (w : World) : (callFunc 184 #[.float .f64 b]).run Tryz.prog w = .ok (.value (.float .f64 (floorB b))) w := by
  rw [run_callFunc_extern Tryz.func184 (by kernel_rfl) (by kernel_rfl) (by kernel_rfl) (e := Extern.MathFloor.toIntegral "math.archFloor" .down) (by kernel_rfl)]
  have hr : FloatKind.f64.decode b = .number (decide (9223372036854775808 ≤ b)) (magB b) (-1074 + (upB b : Nat)) := read_num b hb h
  have e : Extern.MathFloor.toIntegral "math.archFloor" .down #[.float .f64 b] = pure (.float .f64 (floorB b)) := by
    unfold floorB
    rw [show Ieee.double.read b = FloatKind.f64.decode b from rfl,hr]
    delta Extern.MathFloor.toIntegral
    show (match FloatKind.f64.decode b with | .nan _ _ => _ | d => pure (Value.float .f64 (FloatKind.f64.encode (d.integral .down)))) = _
    rw [hr]
    rfl
  rw [e]
  rfl
set_option maxHeartbeats 1000000 in
theorem IsNaN_any (b : Nat) (hb : b < 18446744073709551616) (w : World) : Calls Tryz.prog 181 #[.float .f64 b] w fun e w' => e = .returned (.bool (decide (kindB b = 0))) ∧ w = w' := by
  have ho : (FloatKind.f64.format.order b b != some .eq) = decide (kindB b = 0) := by
    show (Ieee.double.order b b != some .eq) = _
    by_cases h : 9218868437227405312 < b % 9223372036854775808
    · rw [order_nan b b hb h,decide_eq_true (by unfold kindB;rw [if_pos (by omega)])];rfl
    · rw [order_self b hb (by omega),decide_eq_false (by unfold kindB;rw [if_neg (by omega)];split <;> (try split) <;> (try split) <;> omega)];rfl
  go_enter Tryz.func181,Tryz.ntmps181
  go_wp2
  go_ret
  exact ⟨rfl,rfl⟩
theorem kind_range (b : Nat) : 0 ≤ kindB b ∧ kindB b ≤ 6 := by
  unfold kindB
  split
  · omega
  · split
    · split <;> omega
    · split
      · split <;> omega
      · split <;> omega
theorem kind_nan {b : Nat} (h : kindB b ≠ 0) : b % 9223372036854775808 ≤ 9218868437227405312 := by
  unfold kindB at h
  split at h
  · exact absurd rfl h
  · omega
theorem kind_6 {b : Nat} : kindB b = 6 ↔ b % 9223372036854775808 = 9218868437227405312 ∧ b < 9223372036854775808 := by
  unfold kindB
  split
  · omega
  · split
    · split <;> omega
    · split
      · split <;> omega
      · split <;> omega
theorem kind_1 {b : Nat} : kindB b = 1 ↔ b % 9223372036854775808 = 9218868437227405312 ∧ 9223372036854775808 ≤ b := by
  unfold kindB
  split
  · omega
  · split
    · split <;> omega
    · split
      · split <;> omega
      · split <;> omega
theorem order_top (b : Nat) (hb : b < 18446744073709551616) (h : b % 9223372036854775808 ≤ 9218868437227405312) : (Ieee.double.order b 9218868437227405311 == some .gt) = decide (b % 9223372036854775808 = 9218868437227405312 ∧ b < 9223372036854775808) := by
  by_cases h1 : b % 9223372036854775808 = 9218868437227405312
  · rw [order_inf b _ hb h1 (by omega) (by omega)]
    by_cases h2 : 9223372036854775808 ≤ b
    · rw [if_pos h2,decide_eq_false (by omega)];rfl
    · rw [if_neg h2,decide_eq_true (by omega)];rfl
  · rw [decide_eq_false (by omega)]
    have := order_max b hb (by omega)
    cases h3 : Ieee.double.order b 9218868437227405311 with
    | none => rfl
    | some o => cases o with
      | lt => rfl
      | eq => rfl
      | gt => exact absurd h3 this
set_option maxHeartbeats 1000000 in
theorem IsInf_up (b : Nat) (hb : b < 18446744073709551616) (hk : kindB b ≠ 0) (w : World) : Calls Tryz.prog 182 #[.float .f64 b, .int .i64 1] w fun e w' => e = .returned (.bool (decide (kindB b = 6))) ∧ w = w' := by
  have ho : (FloatKind.f64.format.order b 9218868437227405311 == some .gt) = decide (kindB b = 6) := by
    show (Ieee.double.order b 9218868437227405311 == some .gt) = _
    rw [order_top b hb (kind_nan hk)]
    exact decide_eq_decide.2 kind_6.symm
  go_enter Tryz.func182,Tryz.ntmps182
  go_wp2
  go_ret
  exact ⟨rfl,rfl⟩
set_option maxHeartbeats 1000000 in
theorem IsInf_down (b : Nat) (hb : b < 18446744073709551616) (hk : kindB b ≠ 0) (w : World) : Calls Tryz.prog 182 #[.float .f64 b, .int .i64 (-1)] w fun e w' => e = .returned (.bool (decide (kindB b = 1))) ∧ w = w' := by
  obtain ⟨f1,f2,f3⟩ := flip b hb
  have hn : Op.negFloat .f64 b = b ^^^ 9223372036854775808 := rfl
  have hr : ∀ w : World,(Op.unary .neg (.float .f64 b)).run Tryz.prog w = .ok (.float .f64 (b ^^^ 9223372036854775808)) w := fun _ => rfl
  have ho : (FloatKind.f64.format.order (b ^^^ 9223372036854775808) 9218868437227405311 == some .gt) = decide (kindB b = 1) := by
    show (Ieee.double.order _ 9218868437227405311 == some .gt) = _
    rw [order_top _ f1 (by rw [f2];exact kind_nan hk),f2]
    refine decide_eq_decide.2 ?_
    rw [kind_1]
    omega
  generalize b ^^^ 9223372036854775808 = c at *
  go_enter Tryz.func182,Tryz.ntmps182
  go_wp2
  go_ret
  exact ⟨rfl,rfl⟩
set_option maxHeartbeats 1000000 in
theorem Signbit_any (b : Nat) (hb : b < 18446744073709551616) (w : World) : Calls Tryz.prog 183 #[.float .f64 b] w fun e w' => e = .returned (.bool (decide (9223372036854775808 ≤ b))) ∧ w = w' := by
  have hf := run_f64bits
  have hw : decide (wrap64 (b : Int) < 0) = decide (9223372036854775808 ≤ b) := by
    refine decide_eq_decide.2 ?_
    by_cases h : 9223372036854775808 ≤ b
    · have : wrap64 (b : Int) = (b : Int) - 18446744073709551616 := by
        unfold wrap64
        omega
      rw [this];omega
    · have : wrap64 (b : Int) = (b : Int) := IntWalk.wrap64_in _ (by omega)
      rw [this];omega
  go_enter Tryz.func183,Tryz.ntmps183
  go_wp2
  go_ret
  exact ⟨rfl,rfl⟩
theorem order_lt0 (b : Nat) (hb : b < 18446744073709551616) (hk : kindB b ≠ 0) : (Ieee.double.order b 0 == some .lt) = decide (kindB b = 1 ∨ kindB b = 2) ∧ (Ieee.double.order b 0 == some .gt) = decide (kindB b = 5 ∨ kindB b = 6) := by
  have hn := kind_nan hk
  by_cases h1 : b % 9223372036854775808 = 9218868437227405312
  · rw [order_inf b 0 hb h1 (by omega) (by omega)]
    by_cases h2 : 9223372036854775808 ≤ b
    · have hk1 : kindB b = 1 := kind_1.2 ⟨h1,h2⟩
      rw [if_pos h2,hk1];decide
    · have hk1 : kindB b = 6 := kind_6.2 ⟨h1,by omega⟩
      rw [if_neg h2,hk1];decide
  · rw [order_zero b hb (by omega)]
    have hkk : kindB b = if b % 9223372036854775808 = 0 then (if 9223372036854775808 ≤ b then 3 else 4) else if 9223372036854775808 ≤ b then 2 else 5 := by
      unfold kindB;rw [if_neg (by omega),if_neg h1]
    rw [hkk]
    split <;> split <;> decide
set_option maxHeartbeats 4000000 in
theorem Kind_any (b : Nat) (hb : b < 18446744073709551616) (w : World) : Calls Tryz.prog 167 #[.float .f64 b] w fun e w' => e = .returned (.int .i64 (kindB b)) ∧ w = w' := by
  have hi := fun v => IsNaN_any b hb v
  have hs := fun v => Signbit_any b hb v
  have hr := kind_range b
  by_cases h0 : kindB b = 0
  · rw [h0] at hi ⊢
    clear hs hr
    go_enter Tryz.func167,Tryz.ntmps167
    go_wp2_with (go_at_call 181;(with_reducible refine (hi _).mono ?_);rintro e w1 ⟨rfl,rfl⟩)
    go_ret
    exact ⟨rfl,rfl⟩
  have hdn := fun v => IsInf_down b hb h0 v
  have hup := fun v => IsInf_up b hb h0 v
  obtain ⟨z1,z2⟩ := order_lt0 b hb h0
  change (FloatKind.f64.format.order b 0 == some .lt) = _ at z1
  change (FloatKind.f64.format.order b 0 == some .gt) = _ at z2
  have hm : kindB b = 3 → decide (9223372036854775808 ≤ b) = true := fun h => by
    unfold kindB at h
    refine decide_eq_true ?_
    split at h
    · omega
    · split at h
      · split at h <;> omega
      · split at h
        · split at h <;> omega
        · split at h <;> omega
  have hp : kindB b = 4 → decide (9223372036854775808 ≤ b) = false := fun h => by
    unfold kindB at h
    refine decide_eq_false ?_
    split at h
    · omega
    · split at h
      · split at h <;> omega
      · split at h
        · split at h <;> omega
        · split at h <;> omega
  have hc : kindB b = 1 ∨ kindB b = 2 ∨ kindB b = 3 ∨ kindB b = 4 ∨ kindB b = 5 ∨ kindB b = 6 := by omega
  clear hr
  rcases hc with h | h | h | h | h | h <;> rw [h] at hi hdn hup z1 z2 hm hp h0 ⊢ <;> clear h h0
  case' inr.inr.inl => have hm := hm rfl;rw [hm] at hs
  case' inr.inr.inr.inl => have hp := hp rfl;rw [hp] at hs
  all_goals
    clear hm hp
    go_enter Tryz.func167,Tryz.ntmps167
    go_wp2_with (first
      | (go_at_call 181;(with_reducible refine (hi _).mono ?_);rintro e w1 ⟨rfl,rfl⟩)
      | (go_at_call 182;first | (with_reducible refine (hdn _).mono ?_;rintro e w1 ⟨rfl,rfl⟩) | (with_reducible refine (hup _).mono ?_;rintro e w1 ⟨rfl,rfl⟩))
      | (go_at_call 183;(with_reducible refine (hs _).mono ?_);rintro e w1 ⟨rfl,rfl⟩))
    go_ret
    exact ⟨rfl,rfl⟩
def shareOK (b : Nat) : Bool := decide (3 ≤ kindB b) && !(Ieee.double.order b 4607182418800017408 == some .gt)
theorem share_fin {b : Nat} (hb : b < 18446744073709551616) (h : shareOK b = true) : b % 9223372036854775808 < 9218868437227405312 ∧ 3 ≤ kindB b := by
  unfold shareOK at h
  simp only [Bool.and_eq_true,decide_eq_true_eq,Bool.not_eq_true',beq_eq_false_iff_ne] at h
  have hk := kind_nan (b := b) (by omega)
  refine ⟨?_,h.1⟩
  rcases Nat.lt_or_ge (b % 9223372036854775808) 9218868437227405312 with h1 | h1
  · exact h1
  · exfalso
    refine h.2 ?_
    rw [order_inf b _ hb (by omega) (by omega) (by omega),if_neg]
    intro h2
    have := kind_1.2 ⟨by omega,h2⟩
    omega
theorem share_int {b : Nat} (hb : b < 18446744073709551616) (h : shareOK b = true) : ∃ n,floatToIntVal .f64 (floorB b) .i64 = some n := by
  obtain ⟨h1,h2⟩ := share_fin hb h
  by_cases hn : b < 9223372036854775808
  · unfold shareOK at h
    simp only [Bool.and_eq_true,decide_eq_true_eq,Bool.not_eq_true',beq_eq_false_iff_ne] at h
    have ho := order_one b h1 hn h.2
    by_cases he : b = 4607182418800017408
    · rw [he,floor_one];exact ⟨1,by decide⟩
    · rw [floor_small b (by omega)];exact ⟨0,by decide⟩
  · have hz : b = 9223372036854775808 := by
      unfold kindB at h2
      split at h2
      · omega
      · split at h2
        · split at h2 <;> omega
        · split at h2
          · omega
          · split at h2 <;> omega
    rw [hz,floor_minus]
    exact ⟨0,by decide⟩
set_option maxHeartbeats 1000000 in
theorem Floor_any (b : Nat) (hb : b < 18446744073709551616) (h : b % 9223372036854775808 < 9218868437227405312) (w : World) : Calls Tryz.prog 168 #[.float .f64 b] w fun e w' => e = .returned (.float .f64 (floorB b)) ∧ w = w' := by
  have hf := fun v => run_archFloor b hb h v
  go_enter Tryz.func168,Tryz.ntmps168
  go_wp2
  go_ret
  exact ⟨rfl,rfl⟩
set_option maxHeartbeats 1000000 in
theorem Share_one (b : Nat) (hb : b < 18446744073709551616) (w : World) : Calls Tryz.prog 134 #[.float .f64 b, .int .i64 1] w fun e w' => (∃ n,e = .returned (.tuple #[.int .i64 n, .int .i64 (if shareOK b = true then 0 else 1)])) ∧ w = w' := by
  have hk := fun v => Kind_any b hb v
  by_cases h0 : kindB b < 3
  · have hs : shareOK b = false := by unfold shareOK;rw [decide_eq_false (by omega)];rfl
    rw [if_neg (by rw [hs];simp)]
    clear hs
    generalize kindB b = k at *
    go_enter Tryz.func134,Tryz.ntmps134
    go_wp2_with (go_at_call 167;(with_reducible refine (hk _).mono ?_);rintro e w1 ⟨rfl,rfl⟩)
    refine bodyPost_ret (v := .tuple #[.int .i64 0, .int .i64 1]) ?_ rfl ⟨⟨0,rfl⟩,rfl⟩
    rw [results_tmp2 rfl]
    simp
  by_cases h1 : Ieee.double.order b 4607182418800017408 = some .gt
  · have hs : shareOK b = false := by unfold shareOK;rw [h1];simp
    rw [if_neg (by rw [hs];simp)]
    have ho : (FloatKind.f64.format.order b 4607182418800017408 == some .gt) = true := by
      show (Ieee.double.order b 4607182418800017408 == some .gt) = true
      rw [h1];rfl
    clear hs h1
    generalize kindB b = k at *
    go_enter Tryz.func134,Tryz.ntmps134
    go_wp2_with (go_at_call 167;(with_reducible refine (hk _).mono ?_);rintro e w1 ⟨rfl,rfl⟩)
    refine bodyPost_ret (v := .tuple #[.int .i64 0, .int .i64 1]) ?_ rfl ⟨⟨0,rfl⟩,rfl⟩
    rw [results_tmp2 rfl]
    simp
  have hs : shareOK b = true := by
    unfold shareOK
    rw [decide_eq_true (by omega),beq_eq_false_iff_ne.2 h1];rfl
  rw [if_pos hs]
  obtain ⟨hf,_⟩ := share_fin hb hs
  obtain ⟨n,hn⟩ := share_int hb hs
  have hfl := fun v => Floor_any b hb hf v
  have ho : (FloatKind.f64.format.order b 4607182418800017408 == some .gt) = false := by
    show (Ieee.double.order b 4607182418800017408 == some .gt) = false
    exact beq_eq_false_iff_ne.2 h1
  have hmul : ∀ w : World,(binOp .mul 22 (.float .f64 b) (.float .f64 4607182418800017408)).run Tryz.prog w = .ok (.float .f64 b) w := fun w => run_float_arith w .mul _ .f64 b _ b (mul_one_ b hb hf)
  have hcv : ∀ w : World,(convert 22 3 (.float .f64 (floorB b))).run Tryz.prog w = .ok (.int .i64 n) w := fun w => run_convert_float_int w _ _ .f64 .i64 _ n (by kernel_rfl) (by kernel_rfl) hn
  have hone : floatOfInt .f64 1 = 4607182418800017408 := by decide
  clear hs h1 hn hf
  generalize kindB b = k at *
  generalize floorB b = fb at *
  go_enter Tryz.func134,Tryz.ntmps134
  go_wp2_with (first
    | (go_at_call 167;(with_reducible refine (hk _).mono ?_);rintro e w1 ⟨rfl,rfl⟩)
    | (go_at_call 168;(with_reducible refine (hfl _).mono ?_);rintro e w1 ⟨rfl,rfl⟩))
  refine bodyPost_ret (v := .tuple #[.int .i64 n, .int .i64 0]) ?_ rfl ⟨⟨n,rfl⟩,rfl⟩
  rw [results_tmp2 rfl]
  simp
end Go.Proofs.YtidacaihmjdmkaaGreat
