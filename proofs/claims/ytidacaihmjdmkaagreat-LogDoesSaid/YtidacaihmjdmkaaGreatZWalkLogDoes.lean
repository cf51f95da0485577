/- The walk of LogDoes. -/
import Derived.Test.YtidacaihmjdmkaaGreatZK17
import Derived.Test.YtidacaihmjdmkaaGreatZCalls9
import Derived.Test.YtidacaihmjdmkaaGreatZK26
import Derived.Test.YtidacaihmjdmkaaGreatZK25
set_option linter.unusedSimpArgs false
set_option linter.unusedVariables false
set_option maxRecDepth 100000
namespace Go.Proofs.YtidacaihmjdmkaaGreat
open Go.RowKit
attribute [local go_sem high] run_mx run_mn
attribute [local go_sem] run_store_flt
set_option maxHeartbeats 16000000 in
theorem walkLogDoes (W : World) (n : Int) (wn : (Lit.int .i64 n).wf = true) (c : Cnf) (hc : c.Wf) (x : Clls) (hx : x.Wf W) :
    Calls Tryz.prog 3 #[.int .i64 n, .agg c.cells, .agg x.cells] W fun e w'=>e = .returned (.bool true) ∧ Below W.heap.size W w':=by
  have hfx:=fixed_any
  have hsm:=fun v=>Small_any c hc.share v
  have hsh : c.small.share < 18446744073709551616:=by rw [c.small_share];exact hc.share
  have hS0:=Now.swap (Now.pushCells (Now.pushCells (Sep.start W) 24 c.cells) 27 x.cells)
  simp only [World.size_alloc] at hS0
  have hcb:=Now.blk (pre:=[]) hS0
  have fc:=fun k=>hcb.frozen k
  have c0 : _ = some (Value.int .i64 c.segs):=hcb.cell 0
  have c1 : _ = some (Value.int .i64 c.slots):=hcb.cell 1
  have c2 : _ = some (Value.float .f64 c.share):=hcb.cell 2
  have c3 : _ = some (Value.int .i64 c.rate):=hcb.cell 3
  clear hcb
  have hle:=hx.l.le
  have hcap:=hx.l.cap
  unfold maxLen at hcap
  by_cases hn : n < 1 ∨ 4096 < n
  · skip
    have hmade:=fun v=>made_bad n hn c.small v
    go_enter Tryz.func3,Tryz.ntmps3
    go_wp2_with (first
      | (go_at_call 11;(with_reducible refine (hsm _).mono ?_);rintro e w1 ⟨rfl,hB⟩;have hS1:=Now.below hS0 hB;have hcb:=Now.blk (pre:=[]) hS1;replace c0 : w1.cell? ⟨W.heap.size,0,none⟩ = some (Value.int .i64 c.segs):=hcb.cell 0;replace c1 : w1.cell? ⟨W.heap.size,1,none⟩ = some (Value.int .i64 c.slots):=hcb.cell 1;replace c2 : w1.cell? ⟨W.heap.size,2,none⟩ = some (Value.float .f64 c.share):=hcb.cell 2;replace c3 : w1.cell? ⟨W.heap.size,3,none⟩ = some (Value.int .i64 c.rate):=hcb.cell 3;replace fc:=fun k=>hcb.frozen k;have hS2:=Lib.hid (Now.set_ (pre:=[]) (Now.set_ (pre:=[]) (Now.set_ (pre:=[]) (Now.set_ (pre:=[]) hS1 0 (.int .i64 c.small.segs)) 1 (.int .i64 c.small.slots)) 2 (.float .f64 c.small.share)) 3 (.int .i64 c.small.rate));clear hcb hsm hS0 hB hS1)
      | (go_at_call 12;(with_reducible refine (hmade _).mono ?_);rintro e w2 ⟨rfl,hB⟩;have hS4:=Now.below hS2.out hB;clear hB hS2 hmade c0 c1 c2 c3 fc)
      | (go_at_call 13;(with_reducible refine (RNew_bad n _ hn).mono ?_);rintro e w3 ⟨rfl,rfl⟩)
      | (go_at_call 14;(with_reducible refine (hfx _).mono ?_);rintro e w9 ⟨rfl,hB⟩;have hS9:=Now.below hS4 hB;clear hB))
    go_ret
    exact ⟨rfl,Sep.base hS9⟩
  obtain ⟨N,rfl⟩ : ∃ N : Nat,n = N:=⟨n.toNat,by omega⟩
  have hN1 : 1 ≤ N:=by omega
  have hN2 : N ≤ 4096:=by omega
  have hN2I : (N : Int) ≤ 4096:=by omega
  clear wn hn
  have hrn:=fun v=>RNew_ok N v hN1 hN2
  cases hm : c.may with
  | false =>
    have hzm : c.small.may = false:=by rw [c.small_may];exact hm
    clear hm
    have hmade:=fun v=>made_arg (N : Int) c.small hsh hzm (by omega) hN2I v
    have hfm:=fun pd v M (h : Now (fun _=>False) W v (refT pd (newRef N) :: M))=>RFormat_arg pd (newRef N) c.small hsh hzm h
    go_enter Tryz.func3,Tryz.ntmps3
    go_wp2_with (first
      | (go_at_call 11;(with_reducible refine (hsm _).mono ?_);rintro e w1 ⟨rfl,hB⟩;have hS1:=Now.below hS0 hB;have hcb:=Now.blk (pre:=[]) hS1;replace c0 : w1.cell? ⟨W.heap.size,0,none⟩ = some (Value.int .i64 c.segs):=hcb.cell 0;replace c1 : w1.cell? ⟨W.heap.size,1,none⟩ = some (Value.int .i64 c.slots):=hcb.cell 1;replace c2 : w1.cell? ⟨W.heap.size,2,none⟩ = some (Value.float .f64 c.share):=hcb.cell 2;replace c3 : w1.cell? ⟨W.heap.size,3,none⟩ = some (Value.int .i64 c.rate):=hcb.cell 3;replace fc:=fun k=>hcb.frozen k;have hS2:=Lib.hid (Now.set_ (pre:=[]) (Now.set_ (pre:=[]) (Now.set_ (pre:=[]) (Now.set_ (pre:=[]) hS1 0 (.int .i64 c.small.segs)) 1 (.int .i64 c.small.slots)) 2 (.float .f64 c.small.share)) 3 (.int .i64 c.small.rate));clear hcb hsm hS0 hB hS1)
      | (go_at_call 12;(with_reducible refine (hmade _).mono ?_);rintro e w2 ⟨gd,rfl,hB⟩;have hS3:=Now.below hS2.out hB;clear hB hS2 hmade c0 c1 c2 c3 fc)
      | (go_at_call 13;(with_reducible refine (hrn _).mono ?_);rintro e w3 ⟨pd,rfl,hO⟩;have hS4:=Now.pushAll hS3 hO;have hcb:=Now.blk (pre:=[_]) hS4;have c0 : w3.cell? ⟨W.heap.size,0,none⟩ = some (Value.int .i64 c.small.segs):=hcb.cell 0;have c1 : w3.cell? ⟨W.heap.size,1,none⟩ = some (Value.int .i64 c.small.slots):=hcb.cell 1;have c2 : w3.cell? ⟨W.heap.size,2,none⟩ = some (Value.float .f64 c.small.share):=hcb.cell 2;have c3 : w3.cell? ⟨W.heap.size,3,none⟩ = some (Value.int .i64 c.small.rate):=hcb.cell 3;clear hcb hS3 hrn hO)
      | (go_at_call 15;(with_reducible refine (hfm _ _ _ hS4).mono ?_);clear hS4 hfm c0 c1 c2 c3;rintro e w4 ⟨rfl,hS4⟩)
      | (go_at_call 14;(with_reducible refine (hfx _).mono ?_);rintro e w9 ⟨rfl,hB⟩;have hS9:=Now.below hS4 hB;clear hB))
    go_ret
    exact ⟨rfl,Sep.base hS9⟩
  | true =>
    have hzm : c.small.may = true:=by rw [c.small_may];exact hm
    by_cases hns : (N : Int) < c.small.sectors
    · skip
      have hmade:=fun v=>made_full (N : Int) c.small hsh hzm hns (by omega) hN2I v
      have hfm:=fun pd v M (h : Now (fun _=>False) W v (refT pd (newRef N) :: M))=>RFormat_full pd (newRef N) c.small hsh hzm (by have : (newRef N).L.length = N:=List.length_replicate;omega) h
      go_enter Tryz.func3,Tryz.ntmps3
      go_wp2_with (first
        | (go_at_call 11;(with_reducible refine (hsm _).mono ?_);rintro e w1 ⟨rfl,hB⟩;have hS1:=Now.below hS0 hB;have hcb:=Now.blk (pre:=[]) hS1;replace c0 : w1.cell? ⟨W.heap.size,0,none⟩ = some (Value.int .i64 c.segs):=hcb.cell 0;replace c1 : w1.cell? ⟨W.heap.size,1,none⟩ = some (Value.int .i64 c.slots):=hcb.cell 1;replace c2 : w1.cell? ⟨W.heap.size,2,none⟩ = some (Value.float .f64 c.share):=hcb.cell 2;replace c3 : w1.cell? ⟨W.heap.size,3,none⟩ = some (Value.int .i64 c.rate):=hcb.cell 3;replace fc:=fun k=>hcb.frozen k;have hS2:=Lib.hid (Now.set_ (pre:=[]) (Now.set_ (pre:=[]) (Now.set_ (pre:=[]) (Now.set_ (pre:=[]) hS1 0 (.int .i64 c.small.segs)) 1 (.int .i64 c.small.slots)) 2 (.float .f64 c.small.share)) 3 (.int .i64 c.small.rate));clear hcb hsm hS0 hB hS1)
        | (go_at_call 12;(with_reducible refine (hmade _).mono ?_);rintro e w2 ⟨gd,rfl,hB⟩;have hS3:=Now.below hS2.out hB;clear hB hS2 hmade c0 c1 c2 c3 fc)
        | (go_at_call 13;(with_reducible refine (hrn _).mono ?_);rintro e w3 ⟨pd,rfl,hO⟩;have hS4:=Now.pushAll hS3 hO;have hcb:=Now.blk (pre:=[_]) hS4;have c0 : w3.cell? ⟨W.heap.size,0,none⟩ = some (Value.int .i64 c.small.segs):=hcb.cell 0;have c1 : w3.cell? ⟨W.heap.size,1,none⟩ = some (Value.int .i64 c.small.slots):=hcb.cell 1;have c2 : w3.cell? ⟨W.heap.size,2,none⟩ = some (Value.float .f64 c.small.share):=hcb.cell 2;have c3 : w3.cell? ⟨W.heap.size,3,none⟩ = some (Value.int .i64 c.small.rate):=hcb.cell 3;clear hcb hS3 hrn hO)
        | (go_at_call 15;(with_reducible refine (hfm _ _ _ hS4).mono ?_);clear hS4 hfm c0 c1 c2 c3;rintro e w4 ⟨rfl,hS4⟩)
        | (go_at_call 14;(with_reducible refine (hfx _).mono ?_);rintro e w9 ⟨rfl,hB⟩;have hS9:=Now.below hS4 hB;clear hB))
      go_ret
      exact ⟨rfl,Sep.base hS9⟩
    replace hns : c.small.sectors ≤ (N : Int):=by omega
    have hN3 : 2 ≤ N:=by
      obtain ⟨hg,hl⟩:=Cnf.small_in hm
      have:=sec_bound c.small.segs c.small.slots (by omega) (by omega)
      rw [Cnf.sectors_eq hzm] at hns
      omega
    clear hm
    by_cases hlim : 0 ≤ x.lim
    · skip
      have hmade:=fun v=>made_ok (N : Int) c.small hsh hzm hns hN2I v
      have hfm:=fun pd v M (h : Now (fun _=>False) W v (refT pd (newRef N) :: M))=>RFormat_ok pd N hN3 hN2 c.small hsh hzm hns h
      have HF:=Lib.hid (startN_fine (n:=N) (by omega) hzm)
      change ∀ pd v M,_ → Calls _ _ _ _ fun e w' => ∃ g,_ ∧ GotR _ _ _ (startN (N : Int) c.small) _ _ _ _ at hfm
      go_enter Tryz.func3,Tryz.ntmps3
      go_wp2_with (first
        | (go_at_call 11;(with_reducible refine (hsm _).mono ?_);rintro e w1 ⟨rfl,hB⟩;have hS1:=Now.below hS0 hB;have hcb:=Now.blk (pre:=[]) hS1;replace c0 : w1.cell? ⟨W.heap.size,0,none⟩ = some (Value.int .i64 c.segs):=hcb.cell 0;replace c1 : w1.cell? ⟨W.heap.size,1,none⟩ = some (Value.int .i64 c.slots):=hcb.cell 1;replace c2 : w1.cell? ⟨W.heap.size,2,none⟩ = some (Value.float .f64 c.share):=hcb.cell 2;replace c3 : w1.cell? ⟨W.heap.size,3,none⟩ = some (Value.int .i64 c.rate):=hcb.cell 3;replace fc:=fun k=>hcb.frozen k;have hS2:=Lib.hid (Now.set_ (pre:=[]) (Now.set_ (pre:=[]) (Now.set_ (pre:=[]) (Now.set_ (pre:=[]) hS1 0 (.int .i64 c.small.segs)) 1 (.int .i64 c.small.slots)) 2 (.float .f64 c.small.share)) 3 (.int .i64 c.small.rate));clear hcb hsm hS0 hB hS1)
        | (go_at_call 12;(with_reducible refine (hmade _).mono ?_);rintro e w2 ⟨g,gd,rfl,A1,k1,A2,k2,A3,k3,hO⟩;have hS3 : Now (fun _=>False) W w2 ((startN (N : Int) c.small).parts g gd 1 A1 k1 A2 k2 A3 k3 ++ [Thing.cells W.heap.size 24 c.small.cells,Thing.cells (W.heap.size + 1) 27 x.cells]):=Now.pushAll hS2.out hO;clear hO hS2 hmade c0 c1 c2 c3 fc)
        | (go_at_call 13;(with_reducible refine (hrn _).mono ?_);rintro e w3 ⟨pd,rfl,hO⟩;have hS4:=Now.pushAll hS3 hO;have hcb:=Now.blk (pre:=[_,_,_,_,_,_]) hS4;have c0 : w3.cell? ⟨W.heap.size,0,none⟩ = some (Value.int .i64 c.small.segs):=hcb.cell 0;have c1 : w3.cell? ⟨W.heap.size,1,none⟩ = some (Value.int .i64 c.small.slots):=hcb.cell 1;have c2 : w3.cell? ⟨W.heap.size,2,none⟩ = some (Value.float .f64 c.small.share):=hcb.cell 2;have c3 : w3.cell? ⟨W.heap.size,3,none⟩ = some (Value.int .i64 c.small.rate):=hcb.cell 3;clear hcb hS3 hrn hO)
        | (go_at_call 15;(with_reducible refine (hfm _ _ _ hS4).mono ?_);clear hS4 hfm c0 c1 c2 c3;rintro e w4 ⟨p,rfl,r0,B1,j1,B2,j2,B3,j3,hR,hS⟩;replace hS : Now (fun _=>False) W w4 ((startN (N : Int) c.small).parts g gd 1 A1 k1 A2 k2 A3 k3 ++ (rlogParts p pd (startN (N : Int) c.small).T B1 j1 B2 j2 B3 j3 (startN (N : Int) c.small).lsn 1 (startN (N : Int) c.small).gen r0 ++ [Thing.cells W.heap.size 24 c.small.cells,Thing.cells (W.heap.size + 1) 27 x.cells])):=Now.perm hS (List.perm_append_comm_assoc (rlogParts p pd (startN (N : Int) c.small).T B1 j1 B2 j2 B3 j3 1 1 1 r0) ((startN (N : Int) c.small).parts g gd 1 A1 k1 A2 k2 A3 k3) [Thing.cells W.heap.size 24 c.small.cells,Thing.cells (W.heap.size + 1) 27 x.cells]);have hbx:=Now.blk (pre:=[_,_,_,_,_,_,_,_,_,_,_]) hS;have u1 : w4.cell? ⟨W.heap.size + 1,1,none⟩ = some (Value.int .i64 x.lim):=hbx.cell 1;clear hbx)
        | (go_at_call 16;have h' := Loc.at_ (LLimit gd _ x.lim) [_,_,_,_] _ hS;(with_reducible refine h'.mono ?_);clear h' hS u1;rintro e w5 ⟨rfl,hS⟩;have hbx:=Now.blk (pre:=[_,_,_,_,_,_,_,_,_,_,_]) hS;have u1 : w5.cell? ⟨W.heap.size + 1,1,none⟩ = some (Value.int .i64 x.lim):=hbx.cell 1;clear hbx)
        | (go_at_call 17;have h' := Loc.at_ (RLimit_any pd r0 x.lim) [_,_,_,_,_,_,_,_,_] _ hS;(with_reducible refine h'.mono ?_);clear h' hS u1;rintro e w6 ⟨rfl,hS⟩))
      replace hS : Now (fun _=>False) W w6 (({ startN (N : Int) c.small with d:=(startN (N : Int) c.small).d.limit x.lim } : LSt).parts g gd 1 A1 k1 A2 k2 A3 k3 ++ (rlogParts p pd ({ startN (N : Int) c.small with d:=(startN (N : Int) c.small).d.limit x.lim } : LSt).T B1 j1 B2 j2 B3 j3 ({ startN (N : Int) c.small with d:=(startN (N : Int) c.small).d.limit x.lim } : LSt).lsn 1 ({ startN (N : Int) c.small with d:=(startN (N : Int) c.small).d.limit x.lim } : LSt).gen (r0.limit x.lim) ++ [Thing.cells W.heap.size 24 c.small.cells,Thing.cells (W.heap.size + 1) 27 x.cells])):=hS
      replace HF : Hid (({ startN (N : Int) c.small with d:=(startN (N : Int) c.small).d.limit x.lim } : LSt).Fine 100):=Lib.hid ⟨HF.out.t,HF.out.lsn,HF.out.gen,HF.out.pend⟩
      have HR : Hid (Rel ({ startN (N : Int) c.small with d:=(startN (N : Int) c.small).d.limit x.lim } : LSt).d (r0.limit x.lim)):=Lib.hid (Rel.limit hR x.lim hx.lim.1 hx.lim.2)
      clear hR hsh hns
      generalize ({ startN (N : Int) c.small with d:=(startN (N : Int) c.small).d.limit x.lim } : LSt) = s0 at hS HF HR
      generalize r0.limit x.lim = r1 at hS HR
      have hbox:=Now.blk (pre:=[_,_,_,_,_,_,_,_,_,_,_]) hS
      clear hbox
      go_loopw [14] (fun vi wr => ∃ (k : Nat) (s : LSt) (r : RDsk) (A1 : Option Addr) (k1 : Nat) (A2 : Option Addr) (k2 : Nat) (A3 : Option Addr) (k3 : Nat) (B1 : Option Addr) (j1 : Nat) (B2 : Option Addr) (j2 : Nat) (B3 : Option Addr) (j3 : Nat),vi = .int .i64 k ∧ k ≤ x.n ∧ k ≤ 60 ∧ Hid (s.Fine (100 - k)) ∧ Hid (Rel s.d r) ∧ Hid (Now (fun _=>False) W wr (s.parts g gd 1 A1 k1 A2 k2 A3 k3 ++ (rlogParts p pd s.T B1 j1 B2 j2 B3 j3 s.lsn 1 s.gen r ++ [Thing.cells W.heap.size 24 c.small.cells,Thing.cells (W.heap.size + 1) 27 x.cells])))) (fun vi _=>61 - (intOf vi).toNat)
      case atStart=>exact ⟨0,_,_,_,_,_,_,_,_,_,_,_,_,_,_,rfl,by omega,by omega,HF,HR,Lib.hid hS⟩
      case round =>
        clear hS HF HR
        obtain ⟨k,s,r,A1,k1,A2,k2,A3,k3,B1,j1,B2,j2,B3,j3,rfl,hk,hk60,hD,hR,hS⟩:=hrel
        replace hS:=hS.out
        have hbx:=Now.blk (pre:=[_,_,_,_,_,_,_,_,_,_,_]) hS
        have u0 : _ = some (Value.slice x.A x.n x.c):=hbx.cell 0
        clear hbx
        by_cases hlt : k < x.n ∧ k < 60
        · obtain ⟨hlt,hlt2⟩:=hlt
          have hltI : (k : Int) < (x.n : Int):=by omega
          have hltJ : (k : Int) < 60:=by omega
          obtain ⟨ad,y,hxA,hb,hy,_,hc10⟩:=hx.l.get hlt
          obtain ⟨o,rfl,ho⟩:=op9_form hy
          obtain ⟨y0,y1,y2,y3,y4,y5,y6,y7,y8,y9⟩:=op10 hS hb hc10
          rw [hxA] at u0
          have hmul : IntKind.i64.wrap ((k : Int) * 10) = (k : Int) * 10:=IntWalk.i64_in _ (by omega)
          obtain ⟨ν,hν⟩ : ∃ ν,100 - k = ν + 1:=⟨99 - k,by omega⟩
          have hstp:=fun v (h : Now (fun _=>False) W v (s.parts g gd 1 A1 k1 A2 k2 A3 k3 ++ (rlogParts p pd s.T B1 j1 B2 j2 B3 j3 s.lsn 1 s.gen r ++ [Thing.cells W.heap.size 24 c.small.cells,Thing.cells (W.heap.size + 1) 27 x.cells])))=>Step_any (k := ν) (hν ▸ hD.out) r hR.out g gd p pd o ho A1 k1 A2 k2 A3 k3 B1 j1 B2 j2 B3 j3 h
          have hf2 : (s.act 1 o).2.2.2.Fine ν:=LSt.Fine.act (hν ▸ hD.out) 1 o
          generalize (s.act 1 o).2.2.2 = s' at hstp hf2
          have hD2 : Hid (s'.Fine (100 - (k + 1))):=Lib.hid (by rw [show 100 - (k + 1) = ν by omega];exact hf2)
          clear hy hc10 hb hν hD ho hf2
          go_wp2_with fail
          go_at_call 18
          refine (hstp _ hS).mono ?_
          clear hstp hS hR u0 y0 y1 y2 y3 y4 y5 y6 y7 y8 y9
          rintro e w7 ⟨⟨q,hq,rfl⟩,r',D1,d1,D2,d2,D3,d3,E1,e1,E2,e2,E3,e3,hR,hS⟩
          rcases hq with rfl | rfl
          · go_wp2_with fail
            go_roundw
            case rel=>exact ⟨k + 1,s',r',_,_,_,_,_,_,_,_,_,_,_,_,by go_num,by omega,by omega,hD2,Lib.hid hR,Lib.hid hS⟩
            case measure=>simp [intOf] <;> omega
          · have hpd : s'.d.pend.length ≤ 1000000000:=by have:=hD2.out.pend;omega
            go_wp2_with fail
            obtain ⟨SD,hSD⟩:=Now.get (pre:=[_,_,_,_]) hS
            obtain ⟨SR,hSR⟩:=Now.get (pre:=[_,_,_,_,_,_,_,_,_]) hS
            obtain ⟨_,_,WA,wc,_,hl1,hlt1⟩:=refT_cells (pre:=[_,_,_,_,_,_,_,_,_]) hS
            have hRR : Rel (s').d r' := hR
            have hpn : ∀ v,Newer (w7).drew v → Calls Tryz.prog 19 #[.pointer (some ⟨gd,0,none⟩)] v fun e w'=>e = .returned (.int .i64 (r').pend.length) ∧ Newer v w' := fun v hv=>by
              have h:=NPending gd (s').d v SD ((dskT gd (s').d).newer hSD hv.undrew)
              rw [hRR.pend] at h
              exact h
            have hsn : ∀ v,Newer (w7).drew v → Calls Tryz.prog 20 #[.pointer (some ⟨gd,0,none⟩), .pointer (some ⟨pd,0,none⟩)] v fun e w'=>e = .returned (.int .i64 1) ∧ Newer v w' := fun v hv =>
              SameN gd pd (s').d r' hRR hpd v SD SR ((dskT gd (s').d).newer hSD hv.undrew) ((refT pd r').newer hSR hv.undrew)
            have hcell : ∀ v,Newer (w7).drew v → v.cell? ⟨pd,1,none⟩ = some (.slice WA (r').pend.length wc):=fun v hv=>(hv.undrew.cell hlt1).trans hl1
            have HS:=Lib.hid hS.drew
            clear hS hSD hSR hl1 hlt1 hRR
            refine wp_region_ord Newer.grow [(0,true),(1,true),(2,true),(3,true),(4,true),(5,true),(6,true),(7,true),(8,true),(9,true),(10,true),(11,true),(12,true),(13,true),(14,true),(15,true),(16,true),(17,true)] [] (by kernel_rfl) (by kernel_rfl) rfl (by kernel_rfl) (by intro _ _ d _ _ h;cases d <;> exact h) ?_
            iterate 18
              (apply wpOrd_take
               · exact rfl
               · intro w1 h1
                 (have u1:=hcell w1 h1)
                 go_simp
                 first
                   | with_reducible exact ⟨rfl,sqN _⟩
                   | with_reducible exact hpn _ h1 | with_reducible exact hsn _ h1 | with_reducible exact hfx _
               simp only [Act.put,sqA,sqB,sqC])
            refine wpOrd_done fun w8 h8=>?_
            have hSF:=Now.below HS.out h8
            clear hcell hpn hsn HS
            go_wp2_with fail
            go_ret
            exact ⟨rfl,Sep.base hSF⟩
        · have hgd : ((k : Int) < (x.n : Int) ∧ ¬ (k : Int) < 60) ∨ ¬ (k : Int) < (x.n : Int):=by omega
          have hpd : s.d.pend.length ≤ 1000000000:=by have:=hD.out.pend;omega
          clear hD hlt
          rcases hgd with ⟨g1,g2⟩ | g1
          all_goals
            go_wp2_with fail
            obtain ⟨SD,hSD⟩:=Now.get (pre:=[_,_,_,_]) hS
            obtain ⟨SR,hSR⟩:=Now.get (pre:=[_,_,_,_,_,_,_,_,_]) hS
            obtain ⟨_,_,WA,wc,_,hl1,hlt1⟩:=refT_cells (pre:=[_,_,_,_,_,_,_,_,_]) hS
            have hRR : Rel (s).d r:=hR.out
            have hpn : ∀ v,Newer (wr).drew v → Calls Tryz.prog 19 #[.pointer (some ⟨gd,0,none⟩)] v fun e w'=>e = .returned (.int .i64 (r).pend.length) ∧ Newer v w' := fun v hv=>by
              have h:=NPending gd (s).d v SD ((dskT gd (s).d).newer hSD hv.undrew)
              rw [hRR.pend] at h
              exact h
            have hsn : ∀ v,Newer (wr).drew v → Calls Tryz.prog 20 #[.pointer (some ⟨gd,0,none⟩), .pointer (some ⟨pd,0,none⟩)] v fun e w'=>e = .returned (.int .i64 1) ∧ Newer v w' := fun v hv =>
              SameN gd pd (s).d r hRR hpd v SD SR ((dskT gd (s).d).newer hSD hv.undrew) ((refT pd r).newer hSR hv.undrew)
            have hcell : ∀ v,Newer (wr).drew v → v.cell? ⟨pd,1,none⟩ = some (.slice WA (r).pend.length wc):=fun v hv=>(hv.undrew.cell hlt1).trans hl1
            have HS:=Lib.hid hS.drew
            clear hS hSD hSR hl1 hlt1 hRR
            refine wp_region_ord Newer.grow [(0,true),(1,true),(2,true),(3,true),(4,true),(5,true),(6,true),(7,true),(8,true),(9,true),(10,true),(11,true),(12,true),(13,true),(14,true),(15,true),(16,true),(17,true)] [] (by kernel_rfl) (by kernel_rfl) rfl (by kernel_rfl) (by intro _ _ d _ _ h;cases d <;> exact h) ?_
            iterate 18
              (apply wpOrd_take
               · exact rfl
               · intro w1 h1
                 (have u1:=hcell w1 h1)
                 go_simp
                 first
                   | with_reducible exact ⟨rfl,sqN _⟩
                   | with_reducible exact hpn _ h1 | with_reducible exact hsn _ h1 | with_reducible exact hfx _
               simp only [Act.put,sqA,sqB,sqC])
            refine wpOrd_done fun w8 h8=>?_
            have hSF:=Now.below HS.out h8
            clear hcell hpn hsn HS
            go_wp2_with fail
            go_ret
            exact ⟨rfl,Sep.base hSF⟩
    · skip
      have hmade:=fun v=>made_ok (N : Int) c.small hsh hzm hns hN2I v
      have hfm:=fun pd v M (h : Now (fun _=>False) W v (refT pd (newRef N) :: M))=>RFormat_ok pd N hN3 hN2 c.small hsh hzm hns h
      have HF:=Lib.hid (startN_fine (n:=N) (by omega) hzm)
      change ∀ pd v M,_ → Calls _ _ _ _ fun e w' => ∃ g,_ ∧ GotR _ _ _ (startN (N : Int) c.small) _ _ _ _ at hfm
      go_enter Tryz.func3,Tryz.ntmps3
      go_wp2_with (first
        | (go_at_call 11;(with_reducible refine (hsm _).mono ?_);rintro e w1 ⟨rfl,hB⟩;have hS1:=Now.below hS0 hB;have hcb:=Now.blk (pre:=[]) hS1;replace c0 : w1.cell? ⟨W.heap.size,0,none⟩ = some (Value.int .i64 c.segs):=hcb.cell 0;replace c1 : w1.cell? ⟨W.heap.size,1,none⟩ = some (Value.int .i64 c.slots):=hcb.cell 1;replace c2 : w1.cell? ⟨W.heap.size,2,none⟩ = some (Value.float .f64 c.share):=hcb.cell 2;replace c3 : w1.cell? ⟨W.heap.size,3,none⟩ = some (Value.int .i64 c.rate):=hcb.cell 3;replace fc:=fun k=>hcb.frozen k;have hS2:=Lib.hid (Now.set_ (pre:=[]) (Now.set_ (pre:=[]) (Now.set_ (pre:=[]) (Now.set_ (pre:=[]) hS1 0 (.int .i64 c.small.segs)) 1 (.int .i64 c.small.slots)) 2 (.float .f64 c.small.share)) 3 (.int .i64 c.small.rate));clear hcb hsm hS0 hB hS1)
        | (go_at_call 12;(with_reducible refine (hmade _).mono ?_);rintro e w2 ⟨g,gd,rfl,A1,k1,A2,k2,A3,k3,hO⟩;have hS3 : Now (fun _=>False) W w2 ((startN (N : Int) c.small).parts g gd 1 A1 k1 A2 k2 A3 k3 ++ [Thing.cells W.heap.size 24 c.small.cells,Thing.cells (W.heap.size + 1) 27 x.cells]):=Now.pushAll hS2.out hO;clear hO hS2 hmade c0 c1 c2 c3 fc)
        | (go_at_call 13;(with_reducible refine (hrn _).mono ?_);rintro e w3 ⟨pd,rfl,hO⟩;have hS4:=Now.pushAll hS3 hO;have hcb:=Now.blk (pre:=[_,_,_,_,_,_]) hS4;have c0 : w3.cell? ⟨W.heap.size,0,none⟩ = some (Value.int .i64 c.small.segs):=hcb.cell 0;have c1 : w3.cell? ⟨W.heap.size,1,none⟩ = some (Value.int .i64 c.small.slots):=hcb.cell 1;have c2 : w3.cell? ⟨W.heap.size,2,none⟩ = some (Value.float .f64 c.small.share):=hcb.cell 2;have c3 : w3.cell? ⟨W.heap.size,3,none⟩ = some (Value.int .i64 c.small.rate):=hcb.cell 3;clear hcb hS3 hrn hO)
        | (go_at_call 15;(with_reducible refine (hfm _ _ _ hS4).mono ?_);clear hS4 hfm c0 c1 c2 c3;rintro e w4 ⟨p,rfl,r0,B1,j1,B2,j2,B3,j3,hR,hS⟩;replace hS : Now (fun _=>False) W w4 ((startN (N : Int) c.small).parts g gd 1 A1 k1 A2 k2 A3 k3 ++ (rlogParts p pd (startN (N : Int) c.small).T B1 j1 B2 j2 B3 j3 (startN (N : Int) c.small).lsn 1 (startN (N : Int) c.small).gen r0 ++ [Thing.cells W.heap.size 24 c.small.cells,Thing.cells (W.heap.size + 1) 27 x.cells])):=Now.perm hS (List.perm_append_comm_assoc (rlogParts p pd (startN (N : Int) c.small).T B1 j1 B2 j2 B3 j3 1 1 1 r0) ((startN (N : Int) c.small).parts g gd 1 A1 k1 A2 k2 A3 k3) [Thing.cells W.heap.size 24 c.small.cells,Thing.cells (W.heap.size + 1) 27 x.cells]);have hbx:=Now.blk (pre:=[_,_,_,_,_,_,_,_,_,_,_]) hS;have u1 : w4.cell? ⟨W.heap.size + 1,1,none⟩ = some (Value.int .i64 x.lim):=hbx.cell 1;clear hbx))
      have HR:=Lib.hid hR
      clear hR hsh hns u1
      generalize startN (N : Int) c.small = s0 at hS HF HR
      have hbox:=Now.blk (pre:=[_,_,_,_,_,_,_,_,_,_,_]) hS
      clear hbox
      go_loopw [14] (fun vi wr => ∃ (k : Nat) (s : LSt) (r : RDsk) (A1 : Option Addr) (k1 : Nat) (A2 : Option Addr) (k2 : Nat) (A3 : Option Addr) (k3 : Nat) (B1 : Option Addr) (j1 : Nat) (B2 : Option Addr) (j2 : Nat) (B3 : Option Addr) (j3 : Nat),vi = .int .i64 k ∧ k ≤ x.n ∧ k ≤ 60 ∧ Hid (s.Fine (100 - k)) ∧ Hid (Rel s.d r) ∧ Hid (Now (fun _=>False) W wr (s.parts g gd 1 A1 k1 A2 k2 A3 k3 ++ (rlogParts p pd s.T B1 j1 B2 j2 B3 j3 s.lsn 1 s.gen r ++ [Thing.cells W.heap.size 24 c.small.cells,Thing.cells (W.heap.size + 1) 27 x.cells])))) (fun vi _=>61 - (intOf vi).toNat)
      case atStart=>exact ⟨0,_,_,_,_,_,_,_,_,_,_,_,_,_,_,rfl,by omega,by omega,HF,HR,Lib.hid hS⟩
      case round =>
        clear hS HF HR
        obtain ⟨k,s,r,A1,k1,A2,k2,A3,k3,B1,j1,B2,j2,B3,j3,rfl,hk,hk60,hD,hR,hS⟩:=hrel
        replace hS:=hS.out
        have hbx:=Now.blk (pre:=[_,_,_,_,_,_,_,_,_,_,_]) hS
        have u0 : _ = some (Value.slice x.A x.n x.c):=hbx.cell 0
        clear hbx
        by_cases hlt : k < x.n ∧ k < 60
        · obtain ⟨hlt,hlt2⟩:=hlt
          have hltI : (k : Int) < (x.n : Int):=by omega
          have hltJ : (k : Int) < 60:=by omega
          obtain ⟨ad,y,hxA,hb,hy,_,hc10⟩:=hx.l.get hlt
          obtain ⟨o,rfl,ho⟩:=op9_form hy
          obtain ⟨y0,y1,y2,y3,y4,y5,y6,y7,y8,y9⟩:=op10 hS hb hc10
          rw [hxA] at u0
          have hmul : IntKind.i64.wrap ((k : Int) * 10) = (k : Int) * 10:=IntWalk.i64_in _ (by omega)
          obtain ⟨ν,hν⟩ : ∃ ν,100 - k = ν + 1:=⟨99 - k,by omega⟩
          have hstp:=fun v (h : Now (fun _=>False) W v (s.parts g gd 1 A1 k1 A2 k2 A3 k3 ++ (rlogParts p pd s.T B1 j1 B2 j2 B3 j3 s.lsn 1 s.gen r ++ [Thing.cells W.heap.size 24 c.small.cells,Thing.cells (W.heap.size + 1) 27 x.cells])))=>Step_any (k := ν) (hν ▸ hD.out) r hR.out g gd p pd o ho A1 k1 A2 k2 A3 k3 B1 j1 B2 j2 B3 j3 h
          have hf2 : (s.act 1 o).2.2.2.Fine ν:=LSt.Fine.act (hν ▸ hD.out) 1 o
          generalize (s.act 1 o).2.2.2 = s' at hstp hf2
          have hD2 : Hid (s'.Fine (100 - (k + 1))):=Lib.hid (by rw [show 100 - (k + 1) = ν by omega];exact hf2)
          clear hy hc10 hb hν hD ho hf2
          go_wp2_with fail
          go_at_call 18
          refine (hstp _ hS).mono ?_
          clear hstp hS hR u0 y0 y1 y2 y3 y4 y5 y6 y7 y8 y9
          rintro e w7 ⟨⟨q,hq,rfl⟩,r',D1,d1,D2,d2,D3,d3,E1,e1,E2,e2,E3,e3,hR,hS⟩
          rcases hq with rfl | rfl
          · go_wp2_with fail
            go_roundw
            case rel=>exact ⟨k + 1,s',r',_,_,_,_,_,_,_,_,_,_,_,_,by go_num,by omega,by omega,hD2,Lib.hid hR,Lib.hid hS⟩
            case measure=>simp [intOf] <;> omega
          · have hpd : s'.d.pend.length ≤ 1000000000:=by have:=hD2.out.pend;omega
            go_wp2_with fail
            obtain ⟨SD,hSD⟩:=Now.get (pre:=[_,_,_,_]) hS
            obtain ⟨SR,hSR⟩:=Now.get (pre:=[_,_,_,_,_,_,_,_,_]) hS
            obtain ⟨_,_,WA,wc,_,hl1,hlt1⟩:=refT_cells (pre:=[_,_,_,_,_,_,_,_,_]) hS
            have hRR : Rel (s').d r' := hR
            have hpn : ∀ v,Newer (w7).drew v → Calls Tryz.prog 19 #[.pointer (some ⟨gd,0,none⟩)] v fun e w'=>e = .returned (.int .i64 (r').pend.length) ∧ Newer v w' := fun v hv=>by
              have h:=NPending gd (s').d v SD ((dskT gd (s').d).newer hSD hv.undrew)
              rw [hRR.pend] at h
              exact h
            have hsn : ∀ v,Newer (w7).drew v → Calls Tryz.prog 20 #[.pointer (some ⟨gd,0,none⟩), .pointer (some ⟨pd,0,none⟩)] v fun e w'=>e = .returned (.int .i64 1) ∧ Newer v w' := fun v hv =>
              SameN gd pd (s').d r' hRR hpd v SD SR ((dskT gd (s').d).newer hSD hv.undrew) ((refT pd r').newer hSR hv.undrew)
            have hcell : ∀ v,Newer (w7).drew v → v.cell? ⟨pd,1,none⟩ = some (.slice WA (r').pend.length wc):=fun v hv=>(hv.undrew.cell hlt1).trans hl1
            have HS:=Lib.hid hS.drew
            clear hS hSD hSR hl1 hlt1 hRR
            refine wp_region_ord Newer.grow [(0,true),(1,true),(2,true),(3,true),(4,true),(5,true),(6,true),(7,true),(8,true),(9,true),(10,true),(11,true),(12,true),(13,true),(14,true),(15,true),(16,true),(17,true)] [] (by kernel_rfl) (by kernel_rfl) rfl (by kernel_rfl) (by intro _ _ d _ _ h;cases d <;> exact h) ?_
            iterate 18
              (apply wpOrd_take
               · exact rfl
               · intro w1 h1
                 (have u1:=hcell w1 h1)
                 go_simp
                 first
                   | with_reducible exact ⟨rfl,sqN _⟩
                   | with_reducible exact hpn _ h1 | with_reducible exact hsn _ h1 | with_reducible exact hfx _
               simp only [Act.put,sqA,sqB,sqC])
            refine wpOrd_done fun w8 h8=>?_
            have hSF:=Now.below HS.out h8
            clear hcell hpn hsn HS
            go_wp2_with fail
            go_ret
            exact ⟨rfl,Sep.base hSF⟩
        · have hgd : ((k : Int) < (x.n : Int) ∧ ¬ (k : Int) < 60) ∨ ¬ (k : Int) < (x.n : Int):=by omega
          have hpd : s.d.pend.length ≤ 1000000000:=by have:=hD.out.pend;omega
          clear hD hlt
          rcases hgd with ⟨g1,g2⟩ | g1
          all_goals
            go_wp2_with fail
            obtain ⟨SD,hSD⟩:=Now.get (pre:=[_,_,_,_]) hS
            obtain ⟨SR,hSR⟩:=Now.get (pre:=[_,_,_,_,_,_,_,_,_]) hS
            obtain ⟨_,_,WA,wc,_,hl1,hlt1⟩:=refT_cells (pre:=[_,_,_,_,_,_,_,_,_]) hS
            have hRR : Rel (s).d r:=hR.out
            have hpn : ∀ v,Newer (wr).drew v → Calls Tryz.prog 19 #[.pointer (some ⟨gd,0,none⟩)] v fun e w'=>e = .returned (.int .i64 (r).pend.length) ∧ Newer v w' := fun v hv=>by
              have h:=NPending gd (s).d v SD ((dskT gd (s).d).newer hSD hv.undrew)
              rw [hRR.pend] at h
              exact h
            have hsn : ∀ v,Newer (wr).drew v → Calls Tryz.prog 20 #[.pointer (some ⟨gd,0,none⟩), .pointer (some ⟨pd,0,none⟩)] v fun e w'=>e = .returned (.int .i64 1) ∧ Newer v w' := fun v hv =>
              SameN gd pd (s).d r hRR hpd v SD SR ((dskT gd (s).d).newer hSD hv.undrew) ((refT pd r).newer hSR hv.undrew)
            have hcell : ∀ v,Newer (wr).drew v → v.cell? ⟨pd,1,none⟩ = some (.slice WA (r).pend.length wc):=fun v hv=>(hv.undrew.cell hlt1).trans hl1
            have HS:=Lib.hid hS.drew
            clear hS hSD hSR hl1 hlt1 hRR
            refine wp_region_ord Newer.grow [(0,true),(1,true),(2,true),(3,true),(4,true),(5,true),(6,true),(7,true),(8,true),(9,true),(10,true),(11,true),(12,true),(13,true),(14,true),(15,true),(16,true),(17,true)] [] (by kernel_rfl) (by kernel_rfl) rfl (by kernel_rfl) (by intro _ _ d _ _ h;cases d <;> exact h) ?_
            iterate 18
              (apply wpOrd_take
               · exact rfl
               · intro w1 h1
                 (have u1:=hcell w1 h1)
                 go_simp
                 first
                   | with_reducible exact ⟨rfl,sqN _⟩
                   | with_reducible exact hpn _ h1 | with_reducible exact hsn _ h1 | with_reducible exact hfx _
               simp only [Act.put,sqA,sqB,sqC])
            refine wpOrd_done fun w8 h8=>?_
            have hSF:=Now.below HS.out h8
            clear hcell hpn hsn HS
            go_wp2_with fail
            go_ret
            exact ⟨rfl,Sep.base hSF⟩
end Go.Proofs.YtidacaihmjdmkaaGreat
