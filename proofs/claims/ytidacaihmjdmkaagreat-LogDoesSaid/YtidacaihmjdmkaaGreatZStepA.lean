/- A law's Step, on: Append. -/
import Derived.Test.YtidacaihmjdmkaaGreatZStep
set_option linter.unusedSimpArgs false
set_option linter.unusedVariables false
set_option maxRecDepth 100000
namespace Go.Proofs.YtidacaihmjdmkaaGreat
open Go.RowKit
attribute [local go_sem high] run_mx run_mn
set_option maxHeartbeats 8000000 in
theorem Step_app {s : LSt} {k : Nat} (hs : s.Fine (k + 1)) (r : RDsk) (hRl : Rel s.d r) (g gd h hd : Nat) (o : Opn) (ho : o.Wf) (AO : Option Addr) (cO : Nat) (AL : Option Addr) (cL : Nat) (AF : Option Addr) (cF : Nat) (BO : Option Addr) (dO : Nat) (BL : Option Addr) (dL : Nat) (BF : Option Addr) (dF : Nat)
    {S0 : Nat → Prop} {w0 w : World} {L : List Thing} (hS : Now S0 w0 w (s.parts g gd 1 AO cO AL cL AF cF ++ (rlogParts h hd s.T BO dO BL dL BF dF s.lsn 1 s.gen r ++ L))) (m : Int) (hm : bits BinOp.and IntKind.i64 o.kind 7 = m) (h0 : m ≠ 0) (h1 : m ≠ 1) (h2 : m ≠ 2) :
    Calls Tryz.prog 18 #[.pointer (some ⟨g,0,none⟩), .pointer (some ⟨h,0,none⟩), .agg o.cells] w fun e w'=>Stepped S0 w0 w' (s.act 1 o).2.2.2 g gd h hd L e:=by
  have hcut:=fun v=>Cut_any o.r v
  obtain ⟨ae,ag,asl,s',hans⟩ : ∃ ae ag asl s',s.act 1 o = (ae,ag,asl,s'):=⟨_,_,_,_,rfl⟩
  have hv:=ho.ver
  have hrf:=ho.r
  have hcf:=Rec.cut_fits hrf
  have hok:=hs.ok
  have hsok:=hs.sealOk 1
  have hlr:=hok.lsn
  have hF : (s.recOf 1 o.r.cut).Fits:=⟨by show 0 ≤ s.lsn ∧ s.lsn < _;omega,by show (0:Int) ≤ 1 ∧ (1:Int) < _;omega,hcf.kind,hcf.ver,hcf.dl,hcf.id,hcf.val⟩
  have hf2 : s'.Fine k:=by have h:=LSt.Fine.act hs 1 o;rw [hans] at h;exact h
  have hok2:=hf2.ok
  obtain ⟨x,xe,hrx⟩:=read_cases s' o.n (o.ver % 7)
  have hrd:=fun (A1 : Option Addr) (k1 : Nat) (A2 : Option Addr) (k2 : Nat) (A3 : Option Addr) (k3 : Nat) L v (h' : Now S0 w0 v (s'.parts g gd 1 A1 k1 A2 k2 A3 k3 ++ L))=>Read_any s' hok2 g gd 1 o.n (o.ver % 7) A1 k1 A2 k2 A3 k3 h'
  have hrr:=fun (r : RDsk) (hRl : Rel s'.d r) (A1 : Option Addr) (k1 : Nat) (A2 : Option Addr) (k2 : Nat) (A3 : Option Addr) (k3 : Nat) L v (h' : Now S0 w0 v (rlogParts h hd s'.T A1 k1 A2 k2 A3 k3 s'.lsn 1 s'.gen r ++ L))=>RLRead_any s' hok2 r hRl h hd 1 o.n (o.ver % 7) A1 k1 A2 k2 A3 k3 h'
  simp only [hrx] at hrd hrr
  have m1 : o.ver.tmod 7 = o.ver % 7:=Int.tmod_eq_emod_of_nonneg hv.1
  have m2 : IntKind.u64.wrap (o.ver % 7) = o.ver % 7:=IntWalk.u64_in _ (by omega)
  have m3 : IntKind.i64.wrap (o.ver % 7) = o.ver % 7:=IntWalk.i64_in _ (by omega)
  have m4 : (o.ver % 7) % 18446744073709551616 = o.ver % 7:=Int.emod_eq_of_lt (by omega) (by omega)
  obtain ⟨sl,hsl⟩ : ∃ sl,o.ver % 7 = sl:=⟨_,rfl⟩
  rw [hsl] at hrd hrr m1 m2 m3 m4
  have hS1 : Now S0 w0 (w.alloc (.cells o.cells 48)) (s.parts g gd 1 AO cO AL cL AF cF ++ (rlogParts h hd s.T BO dO BL dL BF dF s.lsn 1 s.gen r ++ (Thing.cells w.heap.size 48 o.cells :: L))):=Now.back (pre:=[_,_,_,_,_,_,_,_,_,_]) (Now.pushCells hS 48 o.cells)
  have hans0:=hans
  unfold LSt.act at hans
  unfold Rec.value at *
  clear hS hsl hrx hlr hcf hrf hf2 hs
  have hsx:=fun L v (h' : Now S0 w0 v (s.parts g gd 1 AO cO AL cL AF cF ++ L))=>Append_any s hok hsok g gd (by omega) o.r.cut hF AO cO AL cL AF cF h'
  have hrx' := fun L v (h' : Now S0 w0 v (rlogParts h hd s.T BO dO BL dL BF dF s.lsn 1 s.gen r ++ L))=>RAppend_any s hok hsok r hRl h hd (by omega) o.r.cut hF BO dO BL dL BF dF h'
  have hcref:=fun v=>Ref_any o.r.cut v
  rw [hm] at hans
  rw [if_neg h0,if_neg h1,if_neg h2] at hans
  simp only [hans] at hsx hrx'
  rw [hans0]
  clear hans hok hsok hF hans0
  unfold Rec.value at hsx hrx' hcref
  generalize o.r.cut = rc at *
  have n0 : (m == 0) = false:=beq_eq_false_iff_ne.2 h0
  have n1 : (m == 1) = false:=beq_eq_false_iff_ne.2 h1
  have n2 : (m == 2) = false:=beq_eq_false_iff_ne.2 h2
  clear h0 h1 h2
  by_cases h9 : ae = 9
  · subst h9
    clear hrd hrr
    go_enter Tryz.func18,Tryz.ntmps18
    go_wp2_with (first
      | (go_at_call 66;(with_reducible refine (hcut _).mono ?_);rintro e w0' ⟨rfl,hB⟩;replace hS1:=Now.below hS1 hB;clear hB hcut)
      | (go_at_call 34;replace hS1:=Now.back (pre:=[_,_,_,_,_,_,_,_,_,_]) (Now.pushCells hS1 46 #[.int .u64 rc.lsn, .int .u32 rc.epoch, .int .i64 rc.kind, .int .u64 rc.ver, .int .u64 rc.dl, .string rc.id, .string rc.val]);have h' := hsx _ _ hS1;(with_reducible refine h'.mono ?_);clear h' hsx hS1;rintro e w1 ⟨rfl,D1,d1,D2,d2,D3,d3,hS1⟩;replace hS1:=Now.perm (Now.back (pre:=[_,_,_,_,_,_,_,_,_,_]) (Now.pushCells hS1 90 #[.int .i64 ag, .int .i64 asl])) (List.perm_append_comm_assoc (s'.parts g gd 1 D1 d1 D2 d2 D3 d3) (rlogParts h hd s.T BO dO BL dL BF dF s.lsn 1 s.gen r) _);have hob:=Now.blk (pre:=[_,_,_,_,_,_,_,_,_,_,_]) hS1;have q0 : _ = some (Value.int .u64 rc.lsn):=hob.cell 0;have q1 : _ = some (Value.int .u32 rc.epoch):=hob.cell 1;have q2 : _ = some (Value.int .i64 rc.kind):=hob.cell 2;have q3 : _ = some (Value.int .u64 rc.ver):=hob.cell 3;have q4 : _ = some (Value.int .u64 rc.dl):=hob.cell 4;have q5 : _ = some (Value.string rc.id):=hob.cell 5;have q6 : _ = some (Value.string rc.val):=hob.cell 6;clear hob)
      | (go_at_call 68;(with_reducible refine (hcref _).mono ?_);rintro e w1' ⟨rfl,hB⟩;replace hS1:=Now.below hS1 hB;clear hB hcref q0 q1 q2 q3 q4 q5 q6)
      | (go_at_call 67;have h' := hrx' _ _ hS1;(with_reducible refine h'.mono ?_);clear h' hrx' hS1;rintro e w2 ⟨rfl,r2,E1,e1,E2,e2,E3,e3,hR2,hS⟩;replace hS:=Now.perm (Now.back (pre:=[_,_,_,_,_,_,_,_,_,_]) (Now.pushCells hS 90 #[.int .i64 ag, .int .i64 asl])) (List.perm_append_comm_assoc (rlogParts h hd s'.T E1 e1 E2 e2 E3 e3 s'.lsn 1 s'.gen r2) (s'.parts g gd 1 D1 d1 D2 d2 D3 d3) _);have hob:=Now.blk (pre:=[_,_,_,_,_,_,_,_,_,_,_]) hS;have la0 : _ = some (Value.int .i64 ag):=hob.cell 0;have la1 : _ = some (Value.int .i64 asl):=hob.cell 1;clear hob;have hob:=Now.blk (pre:=[_,_,_,_,_,_,_,_,_,_,_,_,_]) hS;have c8 : _ = some (Value.int .i64 o.n):=hob.cell 8;have c9 : _ = some (Value.int .u64 o.ver):=hob.cell 9;clear hob)
      )
    go_ret
    exact ⟨⟨2, .inr rfl,rfl⟩,r2,_,_,_,_,_,_,_,_,_,_,_,_,hR2,Now.drop (pre:=[_,_,_,_,_,_,_,_,_,_]) (Now.drop (pre:=[_,_,_,_,_,_,_,_,_,_]) (Now.drop (pre:=[_,_,_,_,_,_,_,_,_,_]) (Now.drop (pre:=[_,_,_,_,_,_,_,_,_,_]) hS)))⟩
  have n9 : (ae == 9) = false:=beq_eq_false_iff_ne.2 h9
  clear h9
  go_enter Tryz.func18,Tryz.ntmps18
  go_wp2_with (first
    | (go_at_call 66;(with_reducible refine (hcut _).mono ?_);rintro e w0' ⟨rfl,hB⟩;replace hS1:=Now.below hS1 hB;clear hB hcut)
    | (go_at_call 34;replace hS1:=Now.back (pre:=[_,_,_,_,_,_,_,_,_,_]) (Now.pushCells hS1 46 #[.int .u64 rc.lsn, .int .u32 rc.epoch, .int .i64 rc.kind, .int .u64 rc.ver, .int .u64 rc.dl, .string rc.id, .string rc.val]);have h' := hsx _ _ hS1;(with_reducible refine h'.mono ?_);clear h' hsx hS1;rintro e w1 ⟨rfl,D1,d1,D2,d2,D3,d3,hS1⟩;replace hS1:=Now.perm (Now.back (pre:=[_,_,_,_,_,_,_,_,_,_]) (Now.pushCells hS1 90 #[.int .i64 ag, .int .i64 asl])) (List.perm_append_comm_assoc (s'.parts g gd 1 D1 d1 D2 d2 D3 d3) (rlogParts h hd s.T BO dO BL dL BF dF s.lsn 1 s.gen r) _);have hob:=Now.blk (pre:=[_,_,_,_,_,_,_,_,_,_,_]) hS1;have q0 : _ = some (Value.int .u64 rc.lsn):=hob.cell 0;have q1 : _ = some (Value.int .u32 rc.epoch):=hob.cell 1;have q2 : _ = some (Value.int .i64 rc.kind):=hob.cell 2;have q3 : _ = some (Value.int .u64 rc.ver):=hob.cell 3;have q4 : _ = some (Value.int .u64 rc.dl):=hob.cell 4;have q5 : _ = some (Value.string rc.id):=hob.cell 5;have q6 : _ = some (Value.string rc.val):=hob.cell 6;clear hob)
    | (go_at_call 68;(with_reducible refine (hcref _).mono ?_);rintro e w1' ⟨rfl,hB⟩;replace hS1:=Now.below hS1 hB;clear hB hcref q0 q1 q2 q3 q4 q5 q6)
    | (go_at_call 67;have h' := hrx' _ _ hS1;(with_reducible refine h'.mono ?_);clear h' hrx' hS1;rintro e w2 ⟨rfl,r2,E1,e1,E2,e2,E3,e3,hR2,hS⟩;replace hS:=Now.perm (Now.back (pre:=[_,_,_,_,_,_,_,_,_,_]) (Now.pushCells hS 90 #[.int .i64 ag, .int .i64 asl])) (List.perm_append_comm_assoc (rlogParts h hd s'.T E1 e1 E2 e2 E3 e3 s'.lsn 1 s'.gen r2) (s'.parts g gd 1 D1 d1 D2 d2 D3 d3) _);have hob:=Now.blk (pre:=[_,_,_,_,_,_,_,_,_,_,_]) hS;have la0 : _ = some (Value.int .i64 ag):=hob.cell 0;have la1 : _ = some (Value.int .i64 asl):=hob.cell 1;clear hob;have hob:=Now.blk (pre:=[_,_,_,_,_,_,_,_,_,_,_,_,_]) hS;have c8 : _ = some (Value.int .i64 o.n):=hob.cell 8;have c9 : _ = some (Value.int .u64 o.ver):=hob.cell 9;clear hob)
    | (go_at_call 56;replace hS:=Now.back (pre:=[_,_,_,_,_,_,_,_,_,_]) (Now.pushCells hS 90 #[.int .i64 o.n, .int .i64 sl]);(try simp only [World.size_alloc] at hS);have h' := hrd _ _ _ _ _ _ _ _ hS;(with_reducible refine h'.mono ?_);clear h' hrd hS c8 c9;rintro e w5 ⟨rfl,hS⟩;replace hS:=Now.perm (Now.back (pre:=[_,_,_,_,_,_,_,_,_,_]) (Now.pushCells hS 46 #[.int .u64 x.lsn, .int .u32 x.epoch, .int .i64 x.kind, .int .u64 x.ver, .int .u64 x.dl, .string x.id, .string x.val])) (List.perm_append_comm_assoc (s'.parts g gd 1 D1 d1 D2 d2 D3 d3) (rlogParts h hd s'.T E1 e1 E2 e2 E3 e3 s'.lsn 1 s'.gen r2) _);have hlb:=Now.blk (pre:=[_,_,_,_,_,_,_,_,_,_,_]) hS;have l0 : _ = some (Value.int .i64 o.n):=hlb.cell 0;have l1 : _ = some (Value.int .i64 sl):=hlb.cell 1;clear hlb)
    | (go_at_call 69;have h' := hrr r2 hR2 _ _ _ _ _ _ _ _ hS;(with_reducible refine h'.mono ?_);clear h' hrr hS l0 l1;rintro e w6 ⟨rfl,hS⟩;replace hS:=Now.perm (Now.back (pre:=[_,_,_,_,_,_,_,_,_,_]) (Now.pushCells hS 118 #[.int .u64 x.lsn, .int .u32 x.epoch, .int .i64 x.kind, .int .u64 x.ver, .int .u64 x.dl, .string x.id, .string x.val])) (List.perm_append_comm_assoc (rlogParts h hd s'.T E1 e1 E2 e2 E3 e3 s'.lsn 1 s'.gen r2) (s'.parts g gd 1 D1 d1 D2 d2 D3 d3) _)))
  generalize w6.alloc (.cells #[.int .u64 x.lsn, .int .u32 x.epoch, .int .i64 x.kind, .int .u64 x.ver, .int .u64 x.dl, .string x.id, .string x.val] 118) = wb at hS ⊢
  obtain ⟨p1,p2,p3,rfl,rfl,rfl⟩:=somes hok2.t hS
  have hlog:=Now.blk (pre:=[]) hS
  have hrlog:=Now.blk (pre:=[_,_,_,_,_]) hS
  have hyb:=Now.blk (pre:=[_,_,_,_,_,_,_,_,_,_]) hS
  have hxb:=Now.blk (pre:=[_,_,_,_,_,_,_,_,_,_,_]) hS
  have htab:=tabIn_of (pre:=[_]) hS
  have hrtab:=tabIn_of (pre:=[_,_,_,_,_,_]) hS
  have hcx : ∀ v,Newer wb.drew v → v.cell? ⟨w5.heap.size,0,none⟩ = some (.int .u64 x.lsn) ∧ v.cell? ⟨w5.heap.size,1,none⟩ = some (.int .u32 x.epoch) ∧ v.cell? ⟨w5.heap.size,2,none⟩ = some (.int .i64 x.kind) ∧ v.cell? ⟨w5.heap.size,3,none⟩ = some (.int .u64 x.ver) ∧ v.cell? ⟨w5.heap.size,4,none⟩ = some (.int .u64 x.dl) ∧ v.cell? ⟨w5.heap.size,5,none⟩ = some (.string x.id) ∧ v.cell? ⟨w5.heap.size,6,none⟩ = some (.string x.val):=fun v hv=>by
    have b1:=hxb.below hv.undrew hxb.lt
    exact ⟨b1.cell 0,b1.cell 1,b1.cell 2,b1.cell 3,b1.cell 4,b1.cell 5,b1.cell 6⟩
  have hcy : ∀ v,Newer wb.drew v → v.cell? ⟨w6.heap.size,0,none⟩ = some (.int .u64 x.lsn) ∧ v.cell? ⟨w6.heap.size,1,none⟩ = some (.int .u32 x.epoch) ∧ v.cell? ⟨w6.heap.size,2,none⟩ = some (.int .i64 x.kind) ∧ v.cell? ⟨w6.heap.size,3,none⟩ = some (.int .u64 x.ver) ∧ v.cell? ⟨w6.heap.size,4,none⟩ = some (.int .u64 x.dl) ∧ v.cell? ⟨w6.heap.size,5,none⟩ = some (.string x.id) ∧ v.cell? ⟨w6.heap.size,6,none⟩ = some (.string x.val):=fun v hv=>by
    have b1:=hyb.below hv.undrew hyb.lt
    exact ⟨b1.cell 0,b1.cell 1,b1.cell 2,b1.cell 3,b1.cell 4,b1.cell 5,b1.cell 6⟩
  have hct : ∀ v,Newer wb.drew v → v.cell? ⟨h,1,none⟩ = some (.int .i64 s'.T.segs) ∧ v.cell? ⟨h,2,none⟩ = some (.int .i64 s'.T.slots) ∧ v.cell? ⟨h,3,none⟩ = some (.slice E1 s'.T.order.length e1) ∧ v.cell? ⟨h,4,none⟩ = some (.slice E2 s'.T.lens.length e2) ∧ v.cell? ⟨h,5,none⟩ = some (.slice E3 s'.T.firsts.length e3):=fun v hv=>by
    have b3:=hrlog.below hv.undrew hrlog.lt
    exact ⟨b3.cell 1,b3.cell 2,b3.cell 3,b3.cell 4,b3.cell 5⟩
  have hcl : ∀ v,Newer wb.drew v → v.cell? ⟨h,6,none⟩ = some (.int .u64 s'.lsn) ∧ v.cell? ⟨h,7,none⟩ = some (.int .u32 1) ∧ v.cell? ⟨h,8,none⟩ = some (.int .u64 s'.gen):=fun v hv=>by
    have b3:=hrlog.below hv.undrew hrlog.lt
    exact ⟨b3.cell 6,b3.cell 7,b3.cell 8⟩
  have htb:=fun v (hv : Newer wb.drew v)=>Table_any g gd s'.T hok2.t p1 d1 p2 d2 p3 d3 s'.lsn 1 s'.gen v (hlog.below hv.undrew hlog.lt) ((htab.below hv.undrew).more hv.size)
  have hls : ∀ v,Newer wb.drew v → Calls Tryz.prog 43 #[.pointer (some ⟨g,0,none⟩)] v fun e w'=>e = .returned (.int .u64 s'.lsn) ∧ Newer v w' := fun v hv=>(LSN_any g gd s'.T (some p1) d1 (some p2) d2 (some p3) d3 s'.lsn 1 s'.gen v (hlog.below hv.undrew hlog.lt)).mono fun e w' ⟨he,hw⟩=>⟨he,hw ▸ Newer.refl v⟩
  have hep : ∀ v,Newer wb.drew v → Calls Tryz.prog 44 #[.pointer (some ⟨g,0,none⟩)] v fun e w'=>e = .returned (.int .u32 1) ∧ Newer v w' := fun v hv=>(Epoch_any g gd s'.T (some p1) d1 (some p2) d2 (some p3) d3 s'.lsn 1 s'.gen v (hlog.below hv.undrew hlog.lt)).mono fun e w' ⟨he,hw⟩=>⟨he,hw ▸ Newer.refl v⟩
  have hgn : ∀ v,Newer wb.drew v → Calls Tryz.prog 45 #[.pointer (some ⟨g,0,none⟩)] v fun e w'=>e = .returned (.int .u64 s'.gen) ∧ Newer v w' := fun v hv=>(Gen_any g gd s'.T (some p1) d1 (some p2) d2 (some p3) d3 s'.lsn 1 s'.gen v (hlog.below hv.undrew hlog.lt)).mono fun e w' ⟨he,hw⟩=>⟨he,hw ▸ Newer.refl v⟩
  have hrc : ∀ v,Calls Tryz.prog 68 #[.agg #[.int .u64 x.lsn, .int .u32 x.epoch, .int .i64 x.kind, .int .u64 x.ver, .int .u64 x.dl, .string x.id, .string x.val]] v fun e w'=>e = .returned (.agg #[.int .u64 x.lsn, .int .u32 x.epoch, .int .i64 x.kind, .int .u64 x.ver, .int .u64 x.dl, .string x.id, .string x.val]) ∧ Newer v w' := fun v=>Ref_any x v
  have hlr:=fun C1 m1 C2 m2 C3 m3 v=>LRef_any s'.T C1 m1 C2 m2 C3 m3 v
  have hsm:=fun C1 m1 C2 m2 C3 m3 v (hv : Newer wb.drew v) (ht : TabIn v v.heap.size s'.T C1 C2 C3)=>Same_yes s'.T hok2.t.short C1 C2 C3 E1 E2 E3 m1 m2 m3 e1 e2 e3 v ht ((hrtab.below hv.undrew).more hv.size)
  have HS:=Lib.hid hS.drew
  clear hS hlog hrlog hyb hxb htab hrtab
  refine wp_region_ord Newer.grow [(0,true),(1,true),(2,true),(3,true),(4,true),(5,true),(6,true),(7,true),(8,true),(9,true),(10,true),(13,true),(14,true),(15,true),(16,true),(11,false),(12,true),(17,true),(18,true),(19,true),(20,true),(21,true),(22,true),(23,true),(24,true),(25,true),(26,true),(27,true),(28,true),(29,true),(30,true),(31,true),(32,true),(33,true),(34,true),(35,true),(36,true),(37,true),(38,true),(39,true),(40,true),(41,true),(42,true),(43,true),(44,true),(45,true),(46,true)] [] (by kernel_rfl) (by kernel_rfl) rfl (by kernel_rfl) (by intro _ _ d _ _ h;cases d <;> exact h) ?_
  (apply wpOrd_take
   · exact rfl
   · intro w1 h1
     (obtain ⟨x0,x1,x2,x3,x4,x5,x6⟩:=hcx w1 h1)
     go_simp
     first
       | with_reducible exact ⟨rfl,sqN _⟩
   simp only [Act.put,sqA,sqB,sqC])
  (apply wpOrd_take
   · exact rfl
   · intro w1 h1
     (skip)
     go_simp
     first
       | with_reducible exact ⟨rfl,sqN _⟩
       | with_reducible exact hrc _
   simp only [Act.put,sqA,sqB,sqC])
  (apply wpOrd_take
   · exact rfl
   · intro w1 h1
     (obtain ⟨y0,y1,y2,y3,y4,y5,y6⟩:=hcy w1 h1)
     go_simp
     first
       | with_reducible exact ⟨rfl,sqN _⟩
   simp only [Act.put,sqA,sqB,sqC])
  iterate 8
    (apply wpOrd_take
     · exact rfl
     · intro w1 h1
       (skip)
       go_simp
       first
         | with_reducible exact ⟨rfl,sqN _⟩
     simp only [Act.put,sqA,sqB,sqC])
  iterate 3
    (apply wpOrd_take
     · exact rfl
     · intro w1 h1
       (skip)
       go_simp
       first
         | with_reducible exact ⟨rfl,sqN _⟩
     simp only [Act.put,sqA,sqB,sqC])
  (apply wpOrd_take
   · exact rfl
   · intro w1 h1
     (obtain ⟨t0,t1,t2,t3,t4⟩:=hct w1 h1)
     go_simp
     first
       | with_reducible exact ⟨rfl,sqN _⟩
   simp only [Act.put,sqA,sqB,sqC])
  refine wpOrd_do rfl ?_
  intro w1 h1 K hK
  go_simp
  go_at_call 47
  refine (htb w1 h1).mono ?_
  rintro e w8 ⟨C1,m1,C2,m2,C3,m3,rfl,hO⟩
  refine hK _ _ (Sep.base hO) ?_
  clear hK K
  try simp only [Act.put,sqA,sqB,sqC]
  have h8 : Newer wb.drew w8:=h1.trans (Sep.base hO)
  have ht8:=tabIn_of (pre:=[]) hO
  have hcl8 : ∀ v,Newer w8 v → v.cell? ⟨h,6,none⟩ = some (.int .u64 s'.lsn) ∧ v.cell? ⟨h,7,none⟩ = some (.int .u32 1) ∧ v.cell? ⟨h,8,none⟩ = some (.int .u64 s'.gen):=fun v hv=>hcl v (h8.trans hv)
  have hsm8:=fun v (hv : Newer w8 v)=>hsm C1 m1 C2 m2 C3 m3 v (h8.trans hv) ((ht8.below hv).more hv.size)
  have hls8:=fun v (hv : Newer w8 v)=>hls v (h8.trans hv)
  have hep8:=fun v (hv : Newer w8 v)=>hep v (h8.trans hv)
  have hgn8:=fun v (hv : Newer w8 v)=>hgn v (h8.trans hv)
  clear hcx hcy hct hcl hsm hls hep hgn ht8 hO
  iterate 31
    (apply wpOrd_take
     · exact rfl
     · intro w1 h1
       (obtain ⟨l6,l7,l8⟩:=hcl8 _ (by assumption))
       go_simp
       first
         | with_reducible exact ⟨rfl,sqN _⟩
         | with_reducible exact hlr _ _ _ _ _ _ _ | with_reducible exact hsm8 _ (by assumption) | with_reducible exact hls8 _ (by assumption) | with_reducible exact hep8 _ (by assumption) | with_reducible exact hgn8 _ (by assumption)
     simp only [Act.put,sqA,sqB,sqC])
  refine wpOrd_done fun w9 h9w=>?_
  replace hS:=Now.below HS.out (h8.trans h9w)
  clear hcl8 hsm8 hls8 hep8 hgn8 HS
  go_wp2_with fail
  go_ret
  exact ⟨⟨1, .inl rfl,rfl⟩,r2,_,_,_,_,_,_,_,_,_,_,_,_,hR2,Now.drop (pre:=[_,_,_,_,_,_,_,_,_,_]) (Now.drop (pre:=[_,_,_,_,_,_,_,_,_,_]) (Now.drop (pre:=[_,_,_,_,_,_,_,_,_,_]) (Now.drop (pre:=[_,_,_,_,_,_,_,_,_,_]) ((Now.drop (pre:=[_,_,_,_,_,_,_,_,_,_]) (Now.drop (pre:=[_,_,_,_,_,_,_,_,_,_]) (Now.drop (pre:=[_,_,_,_,_,_,_,_,_,_]) hS)))))))⟩
end Go.Proofs.YtidacaihmjdmkaaGreat
