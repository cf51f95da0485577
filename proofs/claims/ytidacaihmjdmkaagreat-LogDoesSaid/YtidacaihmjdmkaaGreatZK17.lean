/- What the laws of this seat lean on, part 17. -/
import Derived.Test.YtidacaihmjdmkaaGreatZK16
import Derived.Test.YtidacaihmjdmkaaGreatZK12
import Derived.Test.YtidacaihmjdmkaaGreatZK5
import Derived.Test.YtidacaihmjdmkaaGreatZK6
import Derived.Test.YtidacaihmjdmkaaGreatZK11
set_option linter.unusedSimpArgs false
set_option linter.unusedVariables false
set_option maxRecDepth 100000
namespace Go.Proofs.YtidacaihmjdmkaaGreat
open Go.RowKit
structure Cnf.Wf (c : Cnf) : Prop where
  segs : -9223372036854775808 ≤ c.segs ∧ c.segs ≤ 9223372036854775807
  slots : -9223372036854775808 ≤ c.slots ∧ c.slots ≤ 9223372036854775807
  share : c.share < 18446744073709551616
  rate : -9223372036854775808 ≤ c.rate ∧ c.rate ≤ 9223372036854775807
section
open Go.ChangeShapes Go.WideShapes Go.ChangeAt Go.Deep
variable {H : Type} {enc : TypeId × Value → H} {W : World} {b0 : Nat}
theorem wf_f64 {b : Nat} (h : (Lit.float .f64 b).wf = true) : b < 18446744073709551616 := by
  simpa [Lit.wf] using h
set_option maxRecDepth 100000 in
theorem opened_Conf {v : Value} {d : DataW H} {ps : List MemPlace} (hv : Value.okWide Tryz.prog W .any b0 24 v) (h : DataW.Trod enc Tryz.prog W 0 (fun _ => true) true 24 v d ps) : ∃ c : Cnf,v = .agg c.cells ∧ c.Wf := by
  obtain ⟨vs,rfl,hg⟩ := opened_flat (P := Tryz.prog) (ks := [.int .i64, .int .i64, .flt, .int .i64]) Tryz.underlying24
    ⟨Tryz.underlying3,by kernel_rfl,rfl,Tryz.underlying3,by kernel_rfl,rfl,Tryz.underlying22,by kernel_rfl,rfl,Tryz.underlying3,by kernel_rfl,rfl,trivial⟩ (by kernel_rfl) hv h
  obtain ⟨_,_,rfl,⟨a,rfl,ha⟩,hg1⟩ := hg.cons
  obtain ⟨_,_,rfl,⟨b,rfl,hb⟩,hg2⟩ := hg1.cons
  obtain ⟨_,_,rfl,⟨f,rfl,hf⟩,hg3⟩ := hg2.cons
  obtain ⟨_,_,rfl,⟨e,rfl,he⟩,hg4⟩ := hg3.cons
  obtain rfl := hg4.nil
  exact ⟨⟨a,b,f,e⟩,rfl,bounds_i64 ha,bounds_i64 hb,wf_f64 hf,bounds_i64 he⟩
end
end Go.Proofs.YtidacaihmjdmkaaGreat
namespace Go.Proofs.YtidacaihmjdmkaaGreat
open Go.RowKit
attribute [local go_sem high] run_mx run_mn
set_option maxHeartbeats 8000000 in
theorem In_any (T : Tab) (hT : T.Ok) (AO : Option Addr) (cO : Nat) (AL : Option Addr) (cL : Nat) (AF : Option Addr) (cF : Nat) (x : Int) (w : World) (h : TabIn w w.heap.size T AO AL AF) :
    Calls Tryz.prog 108 #[.agg (tabCells T AO cO AL cL AF cF), .int .i64 x] w fun e w' => e = .returned (.int .i64 (idx T.order x)) ∧ Newer w w' := by
  have hmn := hT.many
  have ro := h.o
  obtain ⟨n,hn⟩ : ∃ n,T.order.length = n := ⟨_,rfl⟩
  unfold tabCells
  rw [hn] at ro hmn ⊢
  have HN := Lib.hid hn
  have RO := Lib.hid ro
  have hS := Now.pushCells (Sep.start w) 71 #[.int .i64 T.segs, .int .i64 T.slots, .slice AO n cO, .slice AL T.lens.length cL, .slice AF T.firsts.length cF]
  have hx1 := Now.blk (pre:=[]) hS
  have c2 : _ = some (Value.slice AO n cO) := hx1.cell 2
  have hB := Sep.base hS
  clear h hn ro hT hS hx1
  go_enter Tryz.func108,Tryz.ntmps108
  go_wp2_with fail
  generalize w.alloc (.cells #[.int .i64 T.segs, .int .i64 T.slots, .slice AO n cO, .slice AL T.lens.length cL, .slice AF T.firsts.length cF] 71) = wb at *
  go_loop [5] (fun i => ∃ k : Nat,k ≤ n ∧ i = .int .i64 k ∧ Hid (∀ j : Nat,j < k → T.order[j]? ≠ some x)) (fun i => n - (intOf i).toNat)
  case atStart => exact ⟨0,by omega,rfl,Lib.hid (by intro j hj;omega)⟩
  case round =>
    obtain ⟨k,hk,rfl,hno⟩ := hrel
    by_cases hlt : k < n
    · have hki : (k : Int) < (n : Int) := by omega
      obtain ⟨y,hy⟩ : ∃ y,T.order[k]? = some y := ⟨_,List.getElem?_eq_getElem (by rw [HN.out];exact hlt)⟩
      obtain ⟨ad,rfl,had,ca0⟩ := read_cell (u := .int .i64 y) RO.out hlt (by rw [List.getElem?_map,hy];rfl)
      have ca : wb.cell? (ad.add k) = some (.int .i64 y) := (hB.cell (p := ad.add k) (by rw [block_of_add];exact had)).trans ca0
      have HY := Lib.hid hy
      clear hy ca0 had
      by_cases hxy : y = x
      · subst hxy
        have hfin := Lib.hid (idx_at HY.out hno.out)
        clear hno
        go_wp2
        go_ret
        exact ⟨by rw [hfin.out];rfl,hB⟩
      · have hno2 : Hid (∀ j : Nat,j < k + 1 → T.order[j]? ≠ some x) := Lib.hid (by
          intro j hj e
          by_cases hjk : j = k
          · subst hjk
            rw [HY.out] at e
            exact hxy (Option.some.inj e)
          · exact hno.out j (by omega) e)
        go_wp2
        go_round
        case rel => exact ⟨k + 1,by omega,by go_num,hno2⟩
        case measure => simp [intOf];omega
    · obtain rfl : k = n := by omega
      have hfin := Lib.hid (idx_none (l := T.order) (x := x) (fun j hj => hno.out j (by rw [HN.out] at hj;exact hj)))
      go_wp2
      go_ret
      exact ⟨by rw [hfin.out];rfl,hB⟩
end Go.Proofs.YtidacaihmjdmkaaGreat
namespace Go.Proofs.YtidacaihmjdmkaaGreat
open Go.RowKit
attribute [local go_sem high] run_mx run_mn
theorem RSector_ok (slots seg slot : Int) (h1 : 1 ≤ slots ∧ slots ≤ 30) (h2 : 0 ≤ seg ∧ seg < 16) (h3 : 0 ≤ slot ∧ slot ≤ slots) (w : World) :
    Calls Tryz.prog 128 #[.int .i64 slots, .agg #[.int .i64 seg, .int .i64 slot]] w fun e w' => e = .returned (.int .i64 (secOf slots seg slot)) ∧ Newer w w' := by
  have x1 : 0 ≤ seg * (slots + 1) := Int.mul_nonneg (by omega) (by omega)
  have x2 : seg * (slots + 1) ≤ 16 * 31 := Int.mul_le_mul (by omega) (by omega) (by omega) (by omega)
  obtain ⟨a1,a2⟩ := h1
  obtain ⟨b1,b2⟩ := h2
  obtain ⟨d1,d2⟩ := h3
  have n1 : ¬ slots < 1 := by omega
  have n2 : ¬ 30 < slots := by omega
  have n3 : ¬ seg < 0 := by omega
  have n4 : ¬ 15 < seg := by omega
  have n5 : ¬ slot < 0 := by omega
  have n6 : ¬ slots < slot := by omega
  unfold secOf
  go_enter Tryz.func128,Tryz.ntmps128
  go_wp2
  go_ret
  exact ⟨rfl,(Newer.refl w).alloc _⟩
theorem rmay_yes (segs slots : Int) (h1 : 4 ≤ segs ∧ segs ≤ 16) (h2 : 1 ≤ slots ∧ slots ≤ 30) (w : World) :
    Calls Tryz.prog 107 #[.int .i64 segs, .int .i64 slots] w fun e w' => e = .returned (.bool true) ∧ w = w' := by
  obtain ⟨a1,a2⟩ := h1
  obtain ⟨b1,b2⟩ := h2
  go_enter Tryz.func107,Tryz.ntmps107
  go_wp2
  go_ret
  exact ⟨rfl,rfl⟩
set_option maxHeartbeats 2000000 in
theorem RNew_tab (segs slots first : Int) (h1 : 4 ≤ segs ∧ segs ≤ 16) (h2 : 1 ≤ slots ∧ slots ≤ 30) (w : World) :
    Calls Tryz.prog 61 #[.int .i64 segs, .int .i64 slots, .int .u64 first] w fun e w' => GotTab w w' (newTab segs slots first) e := by
  have hm := fun v => rmay_yes segs slots h1 h2 v
  have hS0 := Now.pushRow (Now.pushRow (Now.pushRow (Now.pushCells (Sep.start w) 71 (tabCells (newTab segs slots first) (some ⟨w.heap.size + 1,0,none⟩) 1 (some ⟨w.heap.size + 1 + 1,0,none⟩) 1 (some ⟨w.heap.size + 1 + 1 + 1,0,none⟩) 1)) 3 #[.int .i64 0] (by simp [maxLen])) 3 #[.int .i64 0] (by simp [maxLen])) 43 #[.int .u64 first] (by simp [maxLen])
  simp only [World.size_alloc,List.size_toArray,List.length_cons,List.length_nil,Nat.zero_add] at hS0
  have hS1 := Now.front (pre:=[_,_]) (post := [_]) (Now.swap hS0)
  have hS2 := Now.drop (pre:=[_,_,_]) hS0
  have hS3 : Sep w _ (tabParts (newTab segs slots first) (some ⟨w.heap.size + 1,0,none⟩) 1 (some ⟨w.heap.size + 1 + 1,0,none⟩) 1 (some ⟨w.heap.size + 1 + 1 + 1,0,none⟩) 1) := Now.front (pre:=[_,_]) (post := []) (Now.swap hS2)
  have HS := Lib.hid hS3
  have HB := Lib.hid (Now.blk (pre:=[_,_,_]) hS0)
  clear hS0 hS1 hS2 hS3
  go_enter Tryz.func61,Tryz.ntmps61
  go_wp2_with (go_at_call 107;(with_reducible refine (hm _).mono ?_);rintro e v ⟨rfl,rfl⟩)
  refine bodyPost_ret (v := .tuple #[.agg (tabCells (newTab segs slots first) (some ⟨w.heap.size + 1,0,none⟩) 1 (some ⟨w.heap.size + 1 + 1,0,none⟩) 1 (some ⟨w.heap.size + 1 + 1 + 1,0,none⟩) 1), .int .i64 0]) ?_ rfl ⟨_,_,_,_,_,_,rfl,HS.out⟩
  exact results_row_tmp rfl _ _ _ _ _ _ _ (by simp) (by simp) HB.out Tryz.underlying71 rfl (by kernel_rfl)
theorem In_box (T : Tab) (hT : T.Ok) {AO : Option Addr} (cO : Nat) {AL : Option Addr} (cL : Nat) {AF : Option Addr} (cF : Nat) (x : Int) {w : World} (h : TabIn w w.heap.size T AO AL AF) (v : World) (hv : Below w.heap.size w v) :
    Calls Tryz.prog 108 #[.agg (tabCells T AO cO AL cL AF cF), .int .i64 x] v fun e w' => e = .returned (.int .i64 (idx T.order x)) ∧ Newer v w' :=
  In_any T hT AO cO AL cL AF cF x v ((h.below hv).more hv.size)
set_option maxHeartbeats 4000000 in
theorem RLen_any (T : Tab) (hT : T.Ok) (AO : Option Addr) (cO : Nat) (AL : Option Addr) (cL : Nat) (AF : Option Addr) (cF : Nat) (x : Int) (w : World) (h : TabIn w w.heap.size T AO AL AF) :
    Calls Tryz.prog 126 #[.agg (tabCells T AO cO AL cL AF cF), .int .i64 x] w fun e w' => e = .returned (.int .i64 (T.len x)) ∧ Newer w w' := by
  have hS := Now.pushCells (Sep.start w) 71 (tabCells T AO cO AL cL AF cF)
  have hin := fun v (hv : Below w.heap.size w v) => In_box T hT cO cL cF x h v hv
  have hll := hT.len
  have hlm := hT.many
  have hrl := h.l
  clear h hT
  unfold Tab.len
  by_cases h0 : 0 ≤ idx T.order x
  · obtain ⟨m,hm⟩ : ∃ m : Nat,idx T.order x = m := ⟨(idx T.order x).toNat,by omega⟩
    have hmo := idx_some h0
    rw [hm,Int.toNat_natCast] at hmo
    have hml : m < T.order.length := (List.getElem?_eq_some_iff.1 hmo).1
    obtain ⟨y,hy⟩ : ∃ y,T.lens[m]? = some y := ⟨_,List.getElem?_eq_getElem (by omega)⟩
    obtain ⟨ad,rfl,had,ca0⟩ := read_cell (u := .int .i64 y) hrl (show m < T.lens.length by omega) (by rw [List.getElem?_map,hy];rfl)
    have hres : (if (0 : Int) ≤ (m : Int) then T.lens[((m : Int)).toNat]?.getD 0 else 0) = y := by rw [if_pos (by omega),Int.toNat_natCast,hy];rfl
    rw [hm] at hin ⊢
    rw [hres]
    have hn : ¬ (m : Int) < 0 := by omega
    have hb : (m : Int) < (T.lens.length : Int) := by omega
    clear h0 hmo hml hll hrl hm hres hy
    go_enter Tryz.func126,Tryz.ntmps126
    go_wp2_with (go_at_call 108;(with_reducible refine (hin _ (Sep.base hS)).mono ?_);rintro e w1 ⟨rfl,hB⟩;replace hS := Now.below hS hB;have hcb := Now.blk (pre:=[]) hS;have c3 : w1.cell? ⟨w.heap.size,3,none⟩ = some (.slice (some ad) T.lens.length cL) := hcb.cell 3;have ca : w1.cell? (ad.add m) = some (.int .i64 y) := ((Sep.base hS).cell (p := ad.add m) (by rw [block_of_add];exact had)).trans ca0;clear hcb hB hin)
    go_ret
    exact ⟨rfl,Sep.base hS⟩
  · have hres : (if (0 : Int) ≤ idx T.order x then T.lens[(idx T.order x).toNat]?.getD 0 else 0) = 0 := if_neg h0
    rw [hres]
    have hn : idx T.order x < 0 := by omega
    clear hres h0 hll hlm hrl
    go_enter Tryz.func126,Tryz.ntmps126
    go_wp2_with (go_at_call 108;(with_reducible refine (hin _ (Sep.base hS)).mono ?_);rintro e w1 ⟨rfl,hB⟩;replace hS := Now.below hS hB;clear hB hin)
    go_ret
    exact ⟨rfl,Sep.base hS⟩
set_option maxHeartbeats 8000000 in
theorem RFree_any (T : Tab) (hT : T.Ok) (N : Nat) (hN : T.segs = N) (AO : Option Addr) (cO : Nat) (AL : Option Addr) (cL : Nat) (AF : Option Addr) (cF : Nat) (w : World) (h : TabIn w w.heap.size T AO AL AF) :
    Calls Tryz.prog 84 #[.agg (tabCells T AO cO AL cL AF cF)] w fun e w' => ∃ A c,e = .returned (.slice A (T.freeTo N).length c) ∧ Sep w w' [Thing.row 3 1 (.slice A (T.freeTo N).length c) (T.freeTo N).length (ints (T.freeTo N))] := by
  obtain ⟨i0,hi0,hz0,hz1,hz2⟩ := info_parts infoInt
  have hsg := hT.segs
  have hN16 : N ≤ 16 := by omega
  have hin := fun x v (hv : Below w.heap.size w v) => In_box T hT cO cL cF x h v hv
  have hS := Lib.hid (Now.pushRow (Now.pushCells (Sep.start w) 71 (tabCells T AO cO AL cL AF cF)) 3 #[] (by simp [maxLen]))
  have hfl := fun k => freeTo_length T k
  have HN := Lib.hid hN
  clear h hsg hN
  go_enter Tryz.func84,Tryz.ntmps84
  go_wp2_with fail
  go_loopw [3,4] (fun v3 i wr => ∃ (k : Nat) (B : Option Addr) (j : Nat),k ≤ N ∧ v3 = .slice B (T.freeTo k).length j ∧ i = .int .i64 k ∧ Hid (Sep w wr [Thing.row 3 1 (.slice B (T.freeTo k).length j) (T.freeTo k).length (ints (T.freeTo k)),Thing.cells w.heap.size 71 (tabCells T AO cO AL cL AF cF)])) (fun _ i _ => N - (intOf i).toNat)
  case atStart => exact ⟨0,_,_,by omega,rfl,rfl,Lib.hid (by have h1 := hS.out;simp only [World.size_alloc] at h1;exact h1)⟩
  case round =>
    clear hS
    obtain ⟨k,B,j,hk,rfl,rfl,hS⟩ := hrel
    replace hS := hS.out
    have hxr := Now.blk (pre:=[_]) hS
    have c0 : wr.cell? ⟨w.heap.size,0,none⟩ = some (Value.int .i64 T.segs) := hxr.cell 0
    have c1 : wr.cell? ⟨w.heap.size,1,none⟩ = some (Value.int .i64 T.slots) := hxr.cell 1
    have c2 : wr.cell? ⟨w.heap.size,2,none⟩ = some (Value.slice AO T.order.length cO) := hxr.cell 2
    have c3 : wr.cell? ⟨w.heap.size,3,none⟩ = some (Value.slice AL T.lens.length cL) := hxr.cell 3
    have c4 : wr.cell? ⟨w.heap.size,4,none⟩ = some (Value.slice AF T.firsts.length cF) := hxr.cell 4
    clear hxr
    by_cases hlt : k < N
    · have hks : (k : Int) < T.segs := by have := HN.out;omega
      have hi := hin (k : Int)
      by_cases hid : idx T.order (k : Int) < 0
      · have hfy := freeTo_yes T k hid
        have hfk := hfl k
        have hm1 : (T.freeTo k).length + 1 ≤ maxLen := by unfold maxLen;omega
        have hm2 : ((T.freeTo k).length + 1) * 8 ≤ 140737488355328 := by omega
        go_wp2_with (first
          | (go_at_call 108;(with_reducible refine (hi _ (Sep.base hS)).mono ?_);rintro e w2 ⟨rfl,hB⟩;replace hS := Now.below hS hB;clear hB hi c0 c1 c2 c3 c4;have hrow := Now.row (pre:=[]) hS)
          | (at_builtin;refine wpList_app1 _ rfl _ _ 51 rfl 0 3 Tryz.underlying51 hi0 hz0 hz1 hz2 rfl hrow rfl rfl rfl hm1 hm2 (Nat.zero_le _) ?_;intro v2 w3 ho hg hn;obtain ⟨AV,cV,rfl,_⟩ := own_slice ho;replace hS := Now.grown (pre:=[]) hS ho hg (hn.imp id fun h => ⟨_,Nat.le_succ _,h⟩);clear hrow ho hg hn))
        go_roundw
        case rel =>
          refine ⟨k + 1,AV,cV,by omega,?_,by go_num,Lib.hid ?_⟩
          · rw [hfy,List.length_append];rfl
          · rw [hfy,List.length_append]
            unfold ints
            rw [List.map_append]
            exact hS
        case measure => simp [intOf] <;> omega
      · have hfn := freeTo_no T k hid
        go_wp2_with (first
          | (go_at_call 108;(with_reducible refine (hi _ (Sep.base hS)).mono ?_);rintro e w2 ⟨rfl,hB⟩;replace hS := Now.below hS hB;clear hB hi c0 c1 c2 c3 c4))
        go_roundw
        case rel => exact ⟨k + 1,B,j,by omega,by rw [hfn],by go_num,Lib.hid (by rw [hfn];exact hS)⟩
        case measure => simp [intOf] <;> omega
    · obtain rfl : k = N := by omega
      have hks : ¬ (k : Int) < T.segs := by have := HN.out;omega
      go_wp2_with fail
      go_ret
      exact ⟨_,_,rfl,Now.drop (pre:=[_]) hS⟩
end Go.Proofs.YtidacaihmjdmkaaGreat
