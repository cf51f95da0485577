/- What the laws of this seat lean on, part 22. -/
import Derived.Test.YtidacaihmjdmkaaGreatZK11
import Derived.Test.YtidacaihmjdmkaaGreatZK16
import Derived.Test.YtidacaihmjdmkaaGreatZK20
import Derived.Test.YtidacaihmjdmkaaGreatZK14
import Derived.Test.YtidacaihmjdmkaaGreatZK1
set_option linter.unusedSimpArgs false
set_option linter.unusedVariables false
set_option maxRecDepth 100000
namespace Go.Proofs.YtidacaihmjdmkaaGreat
open Go.RowKit
attribute [local go_sem high] run_mx run_mn
set_option maxHeartbeats 8000000 in
theorem RRight_yes (C : Chk) (hC : C.Right) (AO : Option Addr) (cO : Nat) (AL : Option Addr) (cL : Nat) (w : World) (h : ChkIn w w.heap.size C AO AL) :
    Calls Tryz.prog 160 #[.agg (chkCells C AO cO AL cL)] w fun e w' => e = .returned (.bool true) ∧ Newer w w' := by
  obtain ⟨n,hno⟩ : ∃ n,C.order.length = n := ⟨_,rfl⟩
  have hnl : C.lens.length = n := by rw [hC.len,hno]
  have h1 : (C.gen == 0) = false := beq_eq_false_iff_ne.2 hC.gen
  have h2 : (C.lsn == 0) = false := beq_eq_false_iff_ne.2 hC.lsn
  have h3 : ¬ (n : Int) < 1 := by have := hC.pos;omega
  have h4 : ¬ 16 < (n : Int) := by have := hC.many;omega
  have hn16 : n ≤ 16 := by omega
  have ro := h.o
  have rl := h.l
  rw [hno] at ro
  rw [hnl] at rl
  have RO := Lib.hid ro
  have RL := Lib.hid rl
  have HO := Lib.hid hno
  have HL := Lib.hid hnl
  have HC := Lib.hid hC.all
  unfold chkCells
  rw [hno,hnl]
  have hS := Now.pushCells (Sep.start w) 70 #[.int .u64 C.gen, .int .u32 C.epoch, .int .u64 C.lsn, .int .u64 C.ver, .slice AO n cO, .slice AL n cL]
  have hB := Sep.base hS
  have hx1 := Now.blk (pre:=[]) hS
  clear h ro rl hno hnl hC hS
  go_enter Tryz.func160,Tryz.ntmps160
  go_wp2_with fail
  generalize w.alloc (.cells #[.int .u64 C.gen, .int .u32 C.epoch, .int .u64 C.lsn, .int .u64 C.ver, .slice AO n cO, .slice AL n cL] 70) = wb at *
  go_loopw [4,5] (fun i _ wr => ∃ k : Nat,k ≤ n ∧ i = .int .i64 k ∧ Newer wb wr) (fun i _ _ => n - (intOf i).toNat)
  case atStart => exact ⟨0,by omega,rfl,Newer.refl _⟩
  case round =>
    obtain ⟨k,hk,rfl,hN⟩ := hrel
    by_cases hlt : k < n
    case neg =>
      obtain rfl : k = n := by omega
      go_wp2_with fail
      go_ret
      exact ⟨rfl,hB.trans (hN.mono hB.size)⟩
    have hb1 := hx1.below hN hx1.lt
    have hki : (k : Int) < (n : Int) := by omega
    obtain ⟨x,hx⟩ : ∃ x,C.order[k]? = some x := ⟨_,List.getElem?_eq_getElem (by rw [HO.out];exact hlt)⟩
    obtain ⟨y,hy⟩ : ∃ y,C.lens[k]? = some y := ⟨_,List.getElem?_eq_getElem (by rw [HL.out];exact hlt)⟩
    obtain ⟨ad,rfl,had,ca⟩ := read_cell (u := .int .i64 x) RO.out hlt (by rw [List.getElem?_map,hx];rfl)
    obtain ⟨bd,rfl,hbd,cb⟩ := read_cell (u := .int .i64 y) RL.out hlt (by rw [List.getElem?_map,hy];rfl)
    have hat : (0 ≤ x ∧ x < 16) ∧ ¬ x ∈ C.order.take k ∧ 0 ≤ y ∧ y ≤ 30 := by
      have h0 := HC.out k (by rw [HO.out];exact hlt)
      unfold Chk.at_ at h0
      rw [hx,hy] at h0
      exact h0
    have f1 : ¬ x < 0 := by omega
    have f2 : ¬ 15 < x := by omega
    have f3 : ¬ y < 0 := by omega
    have f4 : ¬ 30 < y := by omega
    have HNM := Lib.hid hat.2.1
    have hw := hB.trans (hN.mono hB.size)
    have c4 : wr.cell? ⟨w.heap.size,4,none⟩ = some (.slice (some ad) n cO) := hb1.cell 4
    have c5 : wr.cell? ⟨w.heap.size,5,none⟩ = some (.slice (some bd) n cL) := hb1.cell 5
    have xa : wr.cell? (ad.add k) = some (.int .i64 x) := (hw.cell (p := ad.add k) (by rw [block_of_add];exact had)).trans ca
    have xb : wr.cell? (bd.add k) = some (.int .i64 y) := (hw.cell (p := bd.add k) (by rw [block_of_add];exact hbd)).trans cb
    have HX := Lib.hid hx
    clear hx hy hat hb1 ca cb
    go_wp2_with fail
    clear c4 c5 xa xb
    go_loopw [5] (fun j wq => ∃ m : Nat,m ≤ k ∧ j = .int .i64 m ∧ Newer wb wq) (fun j _ => k - (intOf j).toNat)
    case atStart => exact ⟨0,by omega,rfl,hN⟩
    case round =>
      obtain ⟨m,hm,rfl,hN⟩ := hrel
      by_cases hltm : m < k
      case neg =>
        obtain rfl : m = k := by omega
        go_wp2_with fail
        go_roundw
        case rel => exact ⟨m + 1,by omega,by go_num,hN⟩
        case measure => simp [intOf];omega
      have hmi : (m : Int) < (k : Int) := by omega
      have hmn : (m : Int) < (n : Int) := by omega
      obtain ⟨z,hz⟩ : ∃ z,C.order[m]? = some z := ⟨_,List.getElem?_eq_getElem (by rw [HO.out];omega)⟩
      obtain ⟨ad',had',_,cz⟩ := read_cell (u := .int .i64 z) RO.out (show m < n by omega) (by rw [List.getElem?_map,hz];rfl)
      obtain rfl : ad = ad' := Option.some.inj had'
      obtain ⟨ad',had'',_,ca⟩ := read_cell (u := .int .i64 x) RO.out hlt (by rw [List.getElem?_map,HX.out];rfl)
      obtain rfl : ad = ad' := Option.some.inj had''
      have hzx : (z == x) = false := beq_eq_false_iff_ne.2 fun e => HNM.out (by rw [← e];exact List.mem_of_getElem? (i := m) (by rw [List.getElem?_take_of_lt hltm];exact hz))
      have hb1 := hx1.below hN hx1.lt
      have hcell : ∀ v,Newer wr.drew v → v.cell? (ad.add m) = some (.int .i64 z) ∧ v.cell? (ad.add k) = some (.int .i64 x) ∧ v.cell? ⟨w.heap.size,4,none⟩ = some (.slice (some ad) n cO) := fun v hv =>
        have h1 := (hB.trans (hN.mono hB.size)).trans (hv.undrew.mono (Nat.le_trans hB.size hN.size))
        have hb2 := hb1.below hv.undrew hb1.lt
        ⟨(h1.cell (p := ad.add m) (by rw [block_of_add];exact had)).trans cz,(h1.cell (p := ad.add k) (by rw [block_of_add];exact had)).trans ca,hb2.cell 4⟩
      clear hz cz ca hb1 had' had''
      go_wp2_with fail
      refine wp_region_ord Newer.grow [(0,true),(1,true),(2,true),(3,true),(4,true),(5,true),(6,true),(7,true),(8,true),(9,true),(10,true)] [] (by kernel_rfl) (by kernel_rfl) rfl (by kernel_rfl) (by intro _ _ d _ _ h;cases d <;> exact h) ?_
      iterate 11
        (apply wpOrd_take
         · exact rfl
         · intro w1 h1
           (obtain ⟨c1,c2,c3⟩ := hcell w1 h1)
           go_simp
           first
             | with_reducible exact ⟨rfl,sqN _⟩
         simp only [Act.put,sqA,sqB,sqC])
      refine wpOrd_done fun w3 h3 => ?_
      go_wp2_with fail
      go_roundw
      case rel => exact ⟨m + 1,by omega,by go_num,hN.trans h3.undrew⟩
      case measure => simp [intOf];omega
end Go.Proofs.YtidacaihmjdmkaaGreat
namespace Go.Proofs.YtidacaihmjdmkaaGreat
open Go.RowKit
attribute [local go_sem high] run_mx run_mn
def pairs7 (C : Chk) : Nat → List UInt8
  | 0 => []
  | k + 1 => pairs7 C k ++ [u8 (C.order[k]?.getD 0),u8 (C.lens[k]?.getD 0)]
theorem pairs7_len (C : Chk) : ∀ k,(pairs7 C k).length = 2 * k
  | 0 => rfl
  | k + 1 => by
    show (pairs7 C k ++ [_,_]).length = _
    rw [List.length_append,pairs7_len C k]
    show 2 * k + 2 = _
    omega
theorem laidAt_app (X s : List UInt8) (m o : Nat) (ho : X.length = o) (h : s.length ≤ m) : laidAt (X ++ List.replicate m 0) o s = (X ++ s) ++ List.replicate (m - s.length) 0 := by
  unfold laidAt
  rw [List.take_append_of_le_length (by omega),List.take_of_length_le (by omega),List.drop_append,List.drop_eq_nil_of_le (by omega),List.drop_replicate,List.nil_append,show m - (o + s.length - X.length) = m - s.length by omega]
theorem head7 (C : Chk) : C.head = (leB C.gen 8 ++ leB C.epoch 4 ++ leB C.lsn 8 ++ leB C.ver 8 ++ [u8 C.order.length]) ++ List.replicate 99 0 := by
  unfold Chk.head
  rw [show (List.replicate 128 (0 : UInt8)) = [] ++ List.replicate 128 0 from rfl,laidAt_app [] (leB C.gen 8) 128 0 rfl (by rw [leB_len];omega),leB_len,List.nil_append,
    laidAt_app (leB C.gen 8) (leB C.epoch 4) _ 8 (leB_len _ _) (by rw [leB_len];omega),leB_len,
    laidAt_app (leB C.gen 8 ++ leB C.epoch 4) (leB C.lsn 8) _ 12 (by rw [List.length_append,leB_len,leB_len]) (by rw [leB_len];omega),leB_len,
    laidAt_app (leB C.gen 8 ++ leB C.epoch 4 ++ leB C.lsn 8) (leB C.ver 8) _ 20 (by rw [List.length_append,List.length_append,leB_len,leB_len,leB_len]) (by rw [leB_len];omega),leB_len]
  rw [List.set_append_right _ _ (by simp only [List.length_append,leB_len];omega)]
  rw [show 28 - (leB C.gen 8 ++ leB C.epoch 4 ++ leB C.lsn 8 ++ leB C.ver 8).length = 0 by simp only [List.length_append,leB_len],List.append_assoc]
  rfl
theorem lists7 (C : Chk) (H : List UInt8) (hH : H.length = 29) : ∀ k,k ≤ 16 → C.lists (H ++ List.replicate 99 0) k = (H ++ pairs7 C k) ++ List.replicate (99 - 2 * k) 0
  | 0,_ => by
    show H ++ List.replicate 99 0 = (H ++ []) ++ List.replicate 99 0
    rw [List.append_nil]
  | k + 1,hk => by
    show ((C.lists _ k).set (29 + 2 * k) _).set (29 + 2 * k + 1) _ = (H ++ (pairs7 C k ++ [_,_])) ++ _
    have hl : (H ++ pairs7 C k).length = 29 + 2 * k := by rw [List.length_append,hH,pairs7_len]
    rw [lists7 C H hH k (by omega),List.set_append_right _ _ (by omega),List.set_append_right _ _ (by omega),hl,show 29 + 2 * k - (29 + 2 * k) = 0 by omega,show 29 + 2 * k + 1 - (29 + 2 * k) = 1 by omega,
      show 99 - 2 * k = (99 - 2 * (k + 1)) + 1 + 1 by omega,List.replicate_succ,List.replicate_succ,List.append_assoc,List.append_assoc,List.append_assoc]
    rfl
def start7 (C : Chk) : ByteArray := putB C.gen 8 ++ putB C.epoch 4 ++ putB C.lsn 8 ++ putB C.ver 8 ++ ⟨#[u8 C.order.length]⟩
def str7 (C : Chk) (k : Nat) : ByteArray := start7 C ++ ⟨(pairs7 C k).toArray⟩
def body7 (C : Chk) (j : Nat) : ByteArray := str7 C C.order.length ++ zeroB j
theorem start7_list (C : Chk) : (start7 C).data.toList = leB C.gen 8 ++ leB C.epoch 4 ++ leB C.lsn 8 ++ leB C.ver 8 ++ [u8 C.order.length] := by
  unfold start7
  simp only [app_list,putB_list]
theorem start7_size (C : Chk) : (start7 C).size = 29 := by
  rw [← size_len,start7_list]
  simp only [List.length_append,leB_len,List.length_singleton]
theorem str7_size (C : Chk) (k : Nat) : (str7 C k).size = 29 + 2 * k := by
  unfold str7
  rw [ByteArray.size_append,start7_size]
  show 29 + (pairs7 C k).toArray.size = _
  rw [List.size_toArray,pairs7_len]
theorem str7_zero (C : Chk) : str7 C 0 = start7 C := by
  unfold str7
  refine ByteArray.ext (Array.ext' ?_)
  rw [app_list]
  exact List.append_nil _
theorem body7_zero (C : Chk) : body7 C 0 = str7 C C.order.length := by
  unfold body7
  refine ByteArray.ext (Array.ext' ?_)
  rw [app_list,zeroB_list]
  exact List.append_nil _
theorem body7_succ (C : Chk) (j : Nat) : body7 C j ++ ⟨#[0]⟩ = body7 C (j + 1) := by
  unfold body7
  rw [ByteArray.append_assoc,zeroB_succ]
theorem str7_succ (C : Chk) (k : Nat) : str7 C k ++ ⟨#[u8 (C.order[k]?.getD 0),u8 (C.lens[k]?.getD 0)]⟩ = str7 C (k + 1) := by
  unfold str7
  rw [ByteArray.append_assoc]
  congr 1
theorem body7_size (C : Chk) (j : Nat) : (body7 C j).size = 29 + 2 * C.order.length + j := by
  unfold body7
  rw [ByteArray.size_append,str7_size,zeroB_size]
theorem body7_is (C : Chk) (hC : C.order.length ≤ 16) : C.body = (body7 C (87 - 2 * C.order.length)).data.toList ++ List.replicate 12 0 := by
  unfold Chk.body body7 str7
  rw [head7,lists7 C _ (by rw [← start7_list,size_len,start7_size]) _ hC,app_list,app_list,start7_list,zeroB_list,show 99 - 2 * C.order.length = (87 - 2 * C.order.length) + 12 by omega, ← List.replicate_append_replicate]
  simp only [List.append_assoc]
theorem sec7_is (C : Chk) (hC : C.order.length ≤ 16) : body7 C (87 - 2 * C.order.length) ++ putB (crcOf (body7 C (87 - 2 * C.order.length)).data.toList) 4 ++ putB C.gen 8 = ⟨C.enc.toArray⟩ := by
  have hb := body7_is C hC
  have hl : (body7 C (87 - 2 * C.order.length)).data.toList.length = 116 := by rw [size_len,body7_size];omega
  generalize body7 C (87 - 2 * C.order.length) = B at hb hl ⊢
  refine ByteArray.ext (Array.ext' ?_)
  rw [app_list,app_list,putB_list,putB_list]
  show _ = C.enc
  unfold Chk.enc
  rw [hb,List.take_append_of_le_length (by omega),List.take_of_length_le (by omega),laidAt_app _ _ _ 116 hl (by rw [leB_len];omega),leB_len,laidAt_app _ _ _ 120 (by rw [List.length_append,hl,leB_len]) (by rw [leB_len];omega),leB_len]
  simp
theorem one_blk (w : World) (a : Int) (ha : 0 ≤ a ∧ a ≤ 255) : ByteBlk (w.alloc (.cells #[.int .u8 a] 5)) w.heap.size [u8 a] := by
  have hv : ((UInt8.ofNat a.toNat).toNat : Int) = a := by rw [UInt8.toNat_ofNat',Nat.mod_eq_of_lt (by omega)];omega
  have h := Blk.new w 5 #[.int .u8 a]
  refine ⟨fun j hj => ?_,fun j _ => h.frozen j⟩
  rw [h.cell]
  have hj : j < 1 := hj
  match j,hj with
  | 0,_ => show some (Value.int .u8 a) = some (.int .u8 ((UInt8.ofNat a.toNat).toNat : Int));rw [hv]
theorem two_blk (w : World) (a b : Int) (ha : 0 ≤ a ∧ a ≤ 255) (hb : 0 ≤ b ∧ b ≤ 255) : ByteBlk (w.alloc (.cells #[.int .u8 a, .int .u8 b] 5)) w.heap.size [u8 a,u8 b] := by
  have hv : ∀ x : Int,0 ≤ x ∧ x ≤ 255 → ((UInt8.ofNat x.toNat).toNat : Int) = x := fun x hx => by
    rw [UInt8.toNat_ofNat',Nat.mod_eq_of_lt (by omega)];omega
  have h := Blk.new w 5 #[.int .u8 a, .int .u8 b]
  refine ⟨fun j hj => ?_,fun j _ => h.frozen j⟩
  rw [h.cell]
  have hj : j < 2 := hj
  match j,hj with
  | 0,_ => show some (Value.int .u8 a) = some (.int .u8 ((UInt8.ofNat a.toNat).toNat : Int));rw [hv a ha]
  | 1,_ => show some (Value.int .u8 b) = some (.int .u8 ((UInt8.ofNat b.toNat).toNat : Int));rw [hv b hb]
theorem conv_oneN (u : World) (x : Int) (hx : 0 ≤ x ∧ x ≤ 255) (v : World) (hv : Newer (u.alloc (.cells #[.int .u8 x] 5)) v) :
    (convert 100 9 (.slice (some ⟨u.heap.size,0,none⟩) 1 1)).run Tryz.prog v = .ok (.string ⟨#[u8 x]⟩) v :=
  run_toString _ Tryz.underlying100 Tryz.underlying5 Tryz.underlying9 ((one_blk u x hx).of_block (hv.block u.heap.size (by simp))) rfl
theorem conv_twoN (u : World) (x y : Int) (hx : 0 ≤ x ∧ x ≤ 255) (hy : 0 ≤ y ∧ y ≤ 255) (v : World) (hv : Newer (u.alloc (.cells #[.int .u8 x, .int .u8 y] 5)) v) :
    (convert 100 9 (.slice (some ⟨u.heap.size,0,none⟩) 2 2)).run Tryz.prog v = .ok (.string ⟨#[u8 x,u8 y]⟩) v :=
  run_toString _ Tryz.underlying100 Tryz.underlying5 Tryz.underlying9 ((two_blk u x y hx hy).of_block (hv.block u.heap.size (by simp))) rfl
set_option maxRecDepth 100000 in
set_option maxHeartbeats 8000000 in
theorem REnc7 (C : Chk) (hC : C.Right) (hN : C.Nums) (AO : Option Addr) (cO : Nat) (AL : Option Addr) (cL : Nat) (w : World) (h : ChkIn w w.heap.size C AO AL) :
    Calls Tryz.prog 122 #[.agg (chkCells C AO cO AL cL)] w fun e w' => e = .returned (.tuple #[.string ⟨C.enc.toArray⟩, .int .i64 0]) ∧ Newer w w' := by
  have hR := fun v (hv : Below w.heap.size w v) => RRight_yes C hC AO cO AL cL v ((h.below hv).more hv.size)
  obtain ⟨n,hno⟩ : ∃ n,C.order.length = n := ⟨_,rfl⟩
  have hnl : C.lens.length = n := by rw [hC.len,hno]
  have hn16 : n ≤ 16 := by have := hC.many;omega
  have hg := hN.gen
  have hep : 0 ≤ C.epoch ∧ C.epoch < 18446744073709551616 := by have := hN.epoch;omega
  have hls := hN.lsn
  have hvr := hN.ver
  have ro := h.o
  have rl := h.l
  rw [hno] at ro
  rw [hnl] at rl
  have hsec := sec7_is C (by omega)
  rw [hno] at hsec
  have RO := Lib.hid ro
  have RL := Lib.hid rl
  have HO := Lib.hid hno
  have HL := Lib.hid hnl
  have HC := Lib.hid hC.all
  unfold chkCells at *
  rw [hno,hnl] at hR ⊢
  have hS := Now.pushCells (Sep.start w) 70 #[.int .u64 C.gen, .int .u32 C.epoch, .int .u64 C.lsn, .int .u64 C.ver, .slice AO n cO, .slice AL n cL]
  have g1 := run_add (putB C.gen 8) (putB C.epoch 4) (by rw [putB_size];omega) (by rw [putB_size];omega)
  have g2 := run_add (putB C.gen 8 ++ putB C.epoch 4) (putB C.lsn 8) (by simp only [ByteArray.size_append,putB_size];omega) (by rw [putB_size];omega)
  have g3 := run_add (putB C.gen 8 ++ putB C.epoch 4 ++ putB C.lsn 8) (putB C.ver 8) (by simp only [ByteArray.size_append,putB_size];omega) (by rw [putB_size];omega)
  have g4 := run_add (putB C.gen 8 ++ putB C.epoch 4 ++ putB C.lsn 8 ++ putB C.ver 8) ⟨#[u8 n]⟩ (by simp only [ByteArray.size_append,putB_size];omega) (by show 1 ≤ 1000;omega)
  have hst : putB C.gen 8 ++ putB C.epoch 4 ++ putB C.lsn 8 ++ putB C.ver 8 ++ ⟨#[u8 n]⟩ = start7 C := by unfold start7;rw [hno]
  rw [hst] at g4
  have hwe : IntKind.u64.wrap C.epoch = C.epoch := IntWalk.u64_in _ (by omega)
  have hwn : IntKind.u8.wrap (n : Int) = (n : Int) := by rw [IntKind.wrap_u8];omega
  have hk1 : 0 ≤ (n : Int) ∧ (n : Int) ≤ 255 := by omega
  clear h ro rl hno hnl hC hN hst
  go_enter Tryz.func122,Tryz.ntmps122
  go_upto_region 3 with (first | (go_at_call 160;(with_reducible refine (hR _ (Sep.base hS)).mono ?_);rintro e w' ⟨rfl,hB⟩;replace hS := Now.below hS hB;clear hR hB))
  have hbx := Now.blk (pre:=[]) hS
  have hcell : ∀ v,Newer w'.drew v → v.cell? ⟨w.heap.size,0,none⟩ = some (.int .u64 C.gen) ∧ v.cell? ⟨w.heap.size,1,none⟩ = some (.int .u32 C.epoch) ∧ v.cell? ⟨w.heap.size,2,none⟩ = some (.int .u64 C.lsn) ∧ v.cell? ⟨w.heap.size,3,none⟩ = some (.int .u64 C.ver) ∧ v.cell? ⟨w.heap.size,4,none⟩ = some (.slice AO n cO) ∧ v.cell? ⟨w.heap.size,5,none⟩ = some (.slice AL n cL) := fun v hv => by
    have hb1 := hbx.below hv.undrew hbx.lt
    exact ⟨hb1.cell 0,hb1.cell 1,hb1.cell 2,hb1.cell 3,hb1.cell 4,hb1.cell 5⟩
  have hS2 := hS.drew
  clear hS
  refine wp_region_ord Newer.grow [(0,true),(1,true),(2,true),(3,true),(4,true),(5,true),(6,true),(7,true),(8,true),(9,true),(10,true),(11,true),(12,true),(13,true),(14,true),(15,true),(16,true),(17,true),(18,true),(19,true),(20,false),(21,true),(22,true),(23,true)] [] (by kernel_rfl) (by kernel_rfl) rfl (by kernel_rfl) (by intro _ _ d _ _ h;cases d <;> exact h) ?_
  iterate 20
    (apply wpOrd_take
     · exact rfl
     · intro w1 h1
       (obtain ⟨c0,c1,c2,c3,c4,c5⟩ := hcell w1 h1)
       go_simp
       first
         | with_reducible exact ⟨rfl,sqN _⟩
         | with_reducible exact RPutN8 _ hg _ | with_reducible exact RPutN4 _ hep _ | with_reducible exact RPutN8 _ hls _ | with_reducible exact RPutN8 _ hvr _
     simp only [Act.put,sqA,sqB,sqC])
  refine wpOrd_do rfl ?_
  intro w2 h2 K hK
  go_simp
  have h3 : Newer w2 (w2.alloc (.cells #[.int .u8 (n : Int)] 5)) := (Below.refl _ _).alloc (Nat.le_refl _) _
  refine hK _ _ h3 ?_
  clear hK K hcell
  have hcv := conv_oneN w2 (n : Int) hk1
  replace hS2 := Now.below (Now.below hS2 h2) h3
  generalize w2.alloc (.cells #[.int .u8 (n : Int)] 5) = w3 at *
  iterate 3
    (apply wpOrd_take
     · exact rfl
     · intro w1 h1
       (have cv := hcv w1 h1)
       go_simp
       first
         | with_reducible exact ⟨rfl,sqN _⟩
     simp only [Act.put,sqA,sqB,sqC])
  refine wpOrd_done fun w4 h4 => ?_
  replace hS2 := Now.below hS2 h4
  clear hcv h2 h3 h4 g1 g2 g3 g4 hwn hwe hbx
  have HS := Lib.hid hS2
  clear hS2
  go_wp2_with fail
  go_loopw [4,5] (fun s i wr => ∃ k : Nat,k ≤ n ∧ s = .string (str7 C k) ∧ i = .int .i64 k ∧ Hid (Sep w wr [Thing.cells w.heap.size 70 #[.int .u64 C.gen, .int .u32 C.epoch, .int .u64 C.lsn, .int .u64 C.ver, .slice AO n cO, .slice AL n cL]])) (fun _ i _ => n - (intOf i).toNat)
  case atStart => exact ⟨0,by omega,by rw [str7_zero],rfl,HS⟩
  case round =>
    clear HS
    obtain ⟨k,hk,rfl,rfl,hS⟩ := hrel
    replace hS := hS.out
    have hbx := Now.blk (pre:=[]) hS
    have c4 : wr.cell? ⟨w.heap.size,4,none⟩ = some (.slice AO n cO) := hbx.cell 4
    by_cases hlt : k < n
    · have hki : (k : Int) < (n : Int) := by omega
      obtain ⟨x,hx⟩ : ∃ x,C.order[k]? = some x := ⟨_,List.getElem?_eq_getElem (by rw [HO.out];exact hlt)⟩
      obtain ⟨y,hy⟩ : ∃ y,C.lens[k]? = some y := ⟨_,List.getElem?_eq_getElem (by rw [HL.out];exact hlt)⟩
      obtain ⟨ad,rfl,had,ca⟩ := read_cell (u := .int .i64 x) RO.out hlt (by rw [List.getElem?_map,hx];rfl)
      obtain ⟨bd,rfl,hbd,cb⟩ := read_cell (u := .int .i64 y) RL.out hlt (by rw [List.getElem?_map,hy];rfl)
      have hat : (0 ≤ x ∧ x < 16) ∧ ¬ x ∈ C.order.take k ∧ 0 ≤ y ∧ y ≤ 30 := by
        have h0 := HC.out k (by rw [HO.out];exact hlt)
        unfold Chk.at_ at h0
        rw [hx,hy] at h0
        exact h0
      have hx2 : 0 ≤ x ∧ x ≤ 255 := by omega
      have hy2 : 0 ≤ y ∧ y ≤ 255 := by omega
      have hwx : IntKind.u8.wrap x = x := by rw [IntKind.wrap_u8];omega
      have hwy : IntKind.u8.wrap y = y := by rw [IntKind.wrap_u8];omega
      have hsz := str7_size C k
      have g5 := run_add (str7 C k) ⟨#[u8 x,u8 y]⟩ (by omega) (by show 2 ≤ 1000;omega)
      have hsu := str7_succ C k
      rw [hx,hy] at hsu
      rw [show (some x).getD 0 = x from rfl,show (some y).getD 0 = y from rfl] at hsu
      rw [hsu] at g5
      have hbase := Sep.base hS
      have hcell : ∀ v,Newer wr.drew v → v.cell? ⟨w.heap.size,4,none⟩ = some (.slice (some ad) n cO) ∧ v.cell? ⟨w.heap.size,5,none⟩ = some (.slice (some bd) n cL) ∧ v.cell? (ad.add k) = some (.int .i64 x) ∧ v.cell? (bd.add k) = some (.int .i64 y) := fun v hv => by
        have hb1 := hbx.below hv.undrew hbx.lt
        have h1 := hbase.trans (hv.undrew.mono hbase.size)
        exact ⟨hb1.cell 4,hb1.cell 5,(h1.cell (p := ad.add k) (by rw [block_of_add];exact had)).trans ca,(h1.cell (p := bd.add k) (by rw [block_of_add];exact hbd)).trans cb⟩
      clear hx hy hat hsu hsz ca cb hbx had hbd hbase
      go_wp2_with fail
      clear c4
      replace hS := hS.drew
      refine wp_region_ord Newer.grow [(0,true),(1,true),(2,true),(3,true),(4,true),(5,true),(6,true),(7,true),(8,true),(9,true),(10,true),(11,true),(12,true),(13,false),(14,true),(15,true),(16,true)] [] (by kernel_rfl) (by kernel_rfl) rfl (by kernel_rfl) (by intro _ _ d _ _ h;cases d <;> exact h) ?_
      iterate 13
        (apply wpOrd_take
         · exact rfl
         · intro w1 h1
           (obtain ⟨d4,d5,da,db⟩ := hcell w1 h1)
           go_simp
           first
             | with_reducible exact ⟨rfl,sqN _⟩
         simp only [Act.put,sqA,sqB,sqC])
      refine wpOrd_do rfl ?_
      intro w2 h2 K hK
      go_simp
      have h3 : Newer w2 (w2.alloc (.cells #[.int .u8 x, .int .u8 y] 5)) := (Below.refl _ _).alloc (Nat.le_refl _) _
      refine hK _ _ h3 ?_
      clear hK K hcell
      have hcv := conv_twoN w2 x y hx2 hy2
      replace hS := Now.below (Now.below hS h2) h3
      generalize w2.alloc (.cells #[.int .u8 x, .int .u8 y] 5) = w3 at *
      iterate 3
        (apply wpOrd_take
         · exact rfl
         · intro w1 h1
           (have cv := hcv w1 h1)
           go_simp
           first
             | with_reducible exact ⟨rfl,sqN _⟩
         simp only [Act.put,sqA,sqB,sqC])
      refine wpOrd_done fun w4 h4 => ?_
      replace hS := Now.below hS h4
      clear hcv h2 h3 h4 g5 hwx hwy
      go_wp2_with fail
      go_roundw
      case rel => exact ⟨k + 1,by omega,rfl,by go_num,Lib.hid hS⟩
      case measure => simp [intOf] <;> omega
    · obtain rfl : k = n := by omega
      have hki : ¬ (k : Int) < (k : Int) := by omega
      clear hbx
      go_wp2_with fail
      have hst : str7 C k = body7 C 0 := by rw [body7_zero,HO.out]
      rw [hst]
      clear c4 hst
      have hbs := body7_size C
      rw [HO.out] at hbs
      have hz : ∀ j : Nat,j < 87 - 2 * k → ∀ u : World,(Op.stringOp .add (body7 C j) (ByteArray.mk #[0])).run Tryz.prog u = .ok (.string (body7 C (j + 1))) u := fun j hj u => by
        rw [run_add _ _ (by rw [hbs];omega) (by show 1 ≤ 1000;omega),body7_succ]
      have HZ := Lib.hid hz
      have HBS := Lib.hid hbs
      clear hz hbs
      go_loopw [4] (fun s wq => ∃ j : Nat,j ≤ 87 - 2 * k ∧ s = .string (body7 C j) ∧ wq = wr) (fun s _ => 116 - (strOf s).size)
      case atStart => exact ⟨0,by omega,rfl,rfl⟩
      case round =>
        obtain ⟨j,hj,rfl,rfl⟩ := hrel
        have hsz1 := HBS.out j
        have hsz2 := HBS.out (j + 1)
        by_cases hlt : j < 87 - 2 * k
        · have hl : ((body7 C j).size : Int) < 116 := by omega
          have hzj := HZ.out j hlt
          go_wp2_with fail
          go_roundw
          case rel => exact ⟨j + 1,by omega,rfl,by first | rfl | trivial⟩
          case measure => simp [strOf,hsz1,hsz2];omega
        · obtain rfl : j = 87 - 2 * k := by omega
          have hl : ¬ ((body7 C (87 - 2 * k)).size : Int) < 116 := by omega
          have hb1000 : (body7 C (87 - 2 * k)).size ≤ 1000 := by omega
          clear hsz1 hsz2 hlt hj
          have hcl := crcOf_lt (body7 C (87 - 2 * k)).data.toList
          have hwc : IntKind.u64.wrap (crcOf (body7 C (87 - 2 * k)).data.toList : Int) = (crcOf (body7 C (87 - 2 * k)).data.toList : Int) := by rw [IntKind.wrap_u64];omega
          have hlc : 0 ≤ (crcOf (body7 C (87 - 2 * k)).data.toList : Int) ∧ (crcOf (body7 C (87 - 2 * k)).data.toList : Int) < 18446744073709551616 := by omega
          have s1 := run_add (body7 C (87 - 2 * k)) (putB (crcOf (body7 C (87 - 2 * k)).data.toList) 4) hb1000 (by rw [putB_size];omega)
          have s2 := run_add (body7 C (87 - 2 * k) ++ putB (crcOf (body7 C (87 - 2 * k)).data.toList) 4) (putB C.gen 8) (by rw [ByteArray.size_append,putB_size,HBS.out];omega) (by rw [putB_size];omega)
          rw [hsec] at s2
          have hSum := fun u => RSumN (body7 C (87 - 2 * k)) hb1000 u
          generalize body7 C (87 - 2 * k) = bd at *
          clear hsec
          go_wp2_with fail
          have hbx := Now.blk (pre:=[]) hS
          have hcell : ∀ v,Newer wr.drew v → v.cell? ⟨w.heap.size,0,none⟩ = some (.int .u64 C.gen) := fun v hv => (hbx.below hv.undrew hbx.lt).cell 0
          replace hS := hS.drew
          clear hbx
          refine wp_region_ord Newer.grow [(0,true),(1,true),(2,true),(3,true),(4,true),(5,true),(6,true),(7,true),(8,true),(9,true),(10,true),(11,true)] [] (by kernel_rfl) (by kernel_rfl) rfl (by kernel_rfl) (by intro _ _ d _ _ h;cases d <;> exact h) ?_
          iterate 12
            (apply wpOrd_take
             · exact rfl
             · intro w1 h1
               (have c0 := hcell w1 h1)
               go_simp
               first
                 | with_reducible exact ⟨rfl,sqN _⟩
                 | with_reducible exact RPutN8 _ hg _ | with_reducible exact RPutN4 _ hlc _ | with_reducible exact hSum _
             simp only [Act.put,sqA,sqB,sqC])
          refine wpOrd_done fun w6 h6 => ?_
          replace hS := Now.below hS h6
          go_wp2_with fail
          go_ret2
          exact ⟨rfl,Sep.base hS⟩
end Go.Proofs.YtidacaihmjdmkaaGreat
namespace Go.Proofs.YtidacaihmjdmkaaGreat
open Go.ChangeShapes Go.WideShapes Go.ChangeAt Go.RowKit Go.Deep
section
variable {H : Type} {enc : TypeId × Value → H} {P : Program} {W : World} {b0 : Nat}
def Rd (enc : TypeId × Value → H) (P : Program) (W : World) (t : TypeId) (R : List Value → Prop) : Prop :=
  ∀ (fuel : Nat) (cs : List Value) (x : DataW H × List MemPlace),DataW.trod enc P W 0 (fun _ => true) true fuel t cs = some x → R cs
def rdInt (k : IntKind) (cs : List Value) : Prop := ∃ n : Int,cs = [.int k n] ∧ (Lit.int k n).wf = true
def rdBool (cs : List Value) : Prop := ∃ b : Bool,cs = [.bool b]
def rdStr (cs : List Value) : Prop := ∃ s : ByteArray,cs = [.string s] ∧ s.size ≤ maxLen
structure Elems (W : World) (ce : Nat) (Q : List Value → Prop) (A : Option Addr) (n c : Nat) (xss : List (List Value)) : Prop where
  le : n ≤ c
  cap : c ≤ maxLen
  len : xss.length = n
  good : ∀ x ∈ xss,x.length = ce ∧ Q x
  at_ : ∀ (k : Nat) (x : List Value),xss[k]? = some x → ∃ ad,A = some ad ∧ ad.block < W.heap.size ∧ ∀ q,q < ce → W.cell? (ad.add (k * ce + q)) = x[q]?
def rdSlice (W : World) (ce : Nat) (Q : List Value → Prop) (cs : List Value) : Prop := ∃ A n c xss,cs = [.slice A n c] ∧ Elems W ce Q A n c xss
def Parts : List (List Value → Prop) → List Value → Prop
  | [],cs => cs = []
  | R :: Rs,cs => ∃ a b,cs = a ++ b ∧ R a ∧ Parts Rs b
theorem tr_int {t : TypeId} {k : IntKind} (hu : P.underlying t = some (.int k)) : Rd enc P W t (rdInt k) := fun fuel cs x h => by
  obtain ⟨n,e,_,w⟩ := DataW.trod_int hu h
  exact ⟨n,e,w⟩
theorem tr_str {t : TypeId} (hu : P.underlying t = some .string) : Rd enc P W t rdStr := fun fuel cs x h => by
  obtain ⟨s,e,_,w⟩ := DataW.trod_string hu h
  exact ⟨s,e,w⟩
theorem tr_slice {t e : TypeId} {ce : Nat} {Q : List Value → Prop} (hce : 0 < ce) (hu : P.underlying t = some (.slice e)) (hc : P.cellsOf e = ce) (hQ : Rd enc P W e Q) : Rd enc P W t (rdSlice W ce Q) := fun fuel cs x h => by
  rcases open_slice hu h with ⟨rfl,_⟩ | ⟨a,n,c,m,k,D,Pl,rfl,_,hl,hm,hmm,hx,hi⟩
  · exact ⟨none,0,0,[],rfl,⟨Nat.le_refl _,by simp [maxLen],rfl,by simp,by simp⟩⟩
  · simp only [if_true] at hmm
    subst hmm
    have hstep : ∀ i,i < n → ∃ x : List Value,(x.length = ce ∧ Q x) ∧ ∀ q,q < ce → W.cell? (a.add (i * ce + q)) = x[q]? := by
      intro i hin
      obtain ⟨cs',hcs',htr⟩ := hi i (by omega)
      obtain ⟨_,hlen,hat⟩ := World.cells?_some hcs'
      rw [hc] at hlen hat
      exact ⟨cs',⟨hlen,hQ _ _ _ htr⟩,fun q hq => by rw [← add_of_add];exact hat q hq⟩
    obtain ⟨xs,hxl,hxs⟩ := exists_list n _ hstep
    refine ⟨some a,n,_,xs,rfl,⟨hl,hm,hxl,fun x hx => ?_,fun k x hk => ⟨a,rfl,?_,(hxs k x hk).2⟩⟩⟩
    · obtain ⟨i,hi',rfl⟩ := List.getElem_of_mem hx
      exact (hxs i _ (List.getElem?_eq_getElem hi')).1
    · have h2 := (hxs k x hk).2 0 hce
      have h3 : 0 < x.length := by rw [(hxs k x hk).1.1];exact hce
      rw [List.getElem?_eq_getElem h3] at h2
      have := lt_of_cell h2
      rwa [block_of_add] at this
def FieldsRd (enc : TypeId × Value → H) (P : Program) (W : World) : Nat → List Field → List (List Value → Prop) → Prop
  | _,[],[] => True
  | n,f :: fs,R :: Rs => f.offset = n ∧ Rd enc P W f.type R ∧ FieldsRd enc P W (n + P.cellsOf f.type) fs Rs
  | _,_,_ => False
theorem fields_parts : ∀ (fs : List Field) (Rs : List (List Value → Prop)) (n m : Nat) (cs : List Value),FieldsRd enc P W n fs Rs → cs.length = n + (fs.map fun f => P.cellsOf f.type).sum →
    (∀ (j : Nat) (f : Field),fs[j]? = some f → ∃ y,DataW.trod enc P W 0 (fun _ => true) true m f.type ((cs.drop f.offset).take (P.cellsOf f.type)) = some y) → Parts Rs (cs.drop n)
  | [],[],n,m,cs,_,hl,_ => by
    show cs.drop n = []
    exact List.drop_of_length_le (by simpa using Nat.le_of_eq hl)
  | f :: fs,R :: Rs,n,m,cs,⟨ho,hR,hr⟩,hl,hf => by
    obtain ⟨y,hy⟩ := hf 0 f rfl
    rw [ho] at hy
    have ih := fields_parts fs Rs (n + P.cellsOf f.type) m cs hr (by rw [hl];simp;omega) (fun j f' hj => hf (j + 1) f' (by simpa using hj))
    refine ⟨(cs.drop n).take (P.cellsOf f.type),cs.drop (n + P.cellsOf f.type),?_,hR _ _ _ hy,ih⟩
    rw [← List.drop_drop,List.take_append_drop]
  | [],_ :: _,_,_,_,h,_,_ => h.elim
  | _ :: _,[],_,_,_,h,_,_ => h.elim
theorem tr_struct {t : TypeId} {fs : Array Field} {Rs : List (List Value → Prop)} (hu : P.underlying t = some (.struct fs)) (hn : P.cellsOf t = (fs.toList.map fun f => P.cellsOf f.type).sum) (hk : FieldsRd enc P W 0 fs.toList Rs) : Rd enc P W t (Parts Rs) := fun fuel cs x h => by
  obtain ⟨xs,m,_,_,hl,hlen,hat⟩ := DataW.trod_struct hu h
  have := fields_parts fs.toList Rs 0 m cs hk (by rw [hl,hn];simp) (fun j f hj => by
    have hlt : j < xs.length := by
      rw [hlen]
      have := (List.getElem?_eq_some_iff.1 hj).1
      simpa using this
    exact ⟨xs[j],by
      have h2 := hat j f (by simpa using hj)
      rw [List.getElem?_eq_getElem hlt] at h2
      exact h2⟩)
  simpa using this
theorem Parts.cons {R : List Value → Prop} {Rs : List (List Value → Prop)} {cs : List Value} (h : Parts (R :: Rs) cs) : ∃ a b,cs = a ++ b ∧ R a ∧ Parts Rs b := h
theorem opened_agg {t : TypeId} {fs : Array Field} {R : List Value → Prop} {v : Value} {d : DataW H} {ps : List MemPlace} (hu : P.underlying t = some (.struct fs)) (hR : Rd enc P W t R)
    (hv : Value.okWide P W .any b0 t v) (h : DataW.Trod enc P W 0 (fun _ => true) true t v d ps) : ∃ cs : List Value,v = .agg cs.toArray ∧ R cs := by
  simp only [Value.okWide,hu] at hv
  obtain ⟨cs,rfl,_⟩ := hv
  obtain ⟨fuel,hf⟩ := h
  exact ⟨cs.toList,by simp,hR _ _ _ hf⟩
theorem Elems.get {ce : Nat} {Q : List Value → Prop} {A : Option Addr} {n c : Nat} {xss : List (List Value)} (h : Elems W ce Q A n c xss) {k : Nat} (hk : k < n) :
    ∃ ad x,A = some ad ∧ ad.block < W.heap.size ∧ Q x ∧ x.length = ce ∧ ∀ q,q < ce → W.cell? (ad.add (k * ce + q)) = x[q]? := by
  have hl : k < xss.length := by rw [h.len];exact hk
  obtain ⟨ad,e,hb,hc⟩ := h.at_ k xss[k] (List.getElem?_eq_getElem hl)
  obtain ⟨g1,g2⟩ := h.good _ (List.getElem_mem hl)
  exact ⟨ad,xss[k],e,hb,g2,g1,hc⟩
theorem Elems.bools {A : Option Addr} {n c : Nat} {xss : List (List Value)} (h : Elems W 1 rdBool A n c xss) : ∃ bs : List Bool,bs.length = n ∧ ∀ k,k < n → ∃ ad,A = some ad ∧ ad.block < W.heap.size ∧ W.cell? (ad.add k) = some (.bool (bs[k]?.getD false)) := by
  obtain ⟨bs,h1,h2⟩ := exists_list (α := Bool) n (fun k b => ∃ ad,A = some ad ∧ ad.block < W.heap.size ∧ W.cell? (ad.add k) = some (.bool b)) (fun k hk => by
    obtain ⟨ad,x,e,hb,⟨b,rfl⟩,_,hc⟩ := h.get hk
    have := hc 0 (by omega)
    simp only [Nat.mul_one,Nat.add_zero,List.getElem?_cons_zero] at this
    exact ⟨b,ad,e,hb,this⟩)
  refine ⟨bs,h1,fun k hk => ?_⟩
  have hl : k < bs.length := by omega
  rw [List.getElem?_eq_getElem hl]
  exact h2 k _ (List.getElem?_eq_getElem hl)
end
end Go.Proofs.YtidacaihmjdmkaaGreat
namespace Go.Proofs.YtidacaihmjdmkaaGreat
def upTo (q : Nat) : List Int := (List.range (q + 1)).map fun i : Nat => (i : Int)
theorem upTo_len (q : Nat) : (upTo q).length = q + 1 := by simp [upTo]
theorem upTo_at (q i : Nat) (h : i ≤ q) : (upTo q)[i]? = some (i : Int) := by
  unfold upTo
  rw [List.getElem?_map,List.getElem?_range (by omega)]
  rfl
theorem upTo_mem (q : Nat) (x : Int) : x ∈ upTo q ↔ 0 ≤ x ∧ x ≤ q := by
  unfold upTo
  rw [List.mem_map]
  constructor
  · rintro ⟨i,hi,rfl⟩
    have := List.mem_range.1 hi
    omega
  · rintro ⟨h1,h2⟩
    exact ⟨x.toNat,List.mem_range.2 (by omega),by omega⟩
theorem upTo_succ (q : Nat) : upTo q ++ [((q + 1 : Nat) : Int)] = upTo (q + 1) := by
  unfold upTo
  rw [List.range_succ (n := q + 1),List.map_append]
  rfl
structure Run (c : Cnf) (q r m : Nat) (s : LSt) : Prop where
  segs : s.T.segs = c.segs
  slots : s.T.slots = c.slots
  order : s.T.order = upTo q
  last : s.T.last = r
  t : s.T.Ok
  lsn : s.lsn = 1 + m
  gen : s.gen = 1
  pend : s.d.pend.length = m
  n : s.d.n = 2 + c.segs * (c.slots + 1)
section
variable {c : Cnf} {q r m : Nat} {s : LSt}
theorem Run.open_ (h : Run c q r m s) : s.T.open_ = q := by
  unfold Tab.open_
  rw [h.order,upTo_len,upTo_at q (q + 1 - 1) (by omega)]
  show ((q + 1 - 1 : Nat) : Int) = q
  omega
theorem Run.q_lt (h : Run c q r m s) : (q : Int) < c.segs := by
  have := h.t.inn (q : Int) (by rw [h.order];exact (upTo_mem q _).2 (by omega))
  rw [h.segs] at this
  omega
theorem Run.r_le (h : Run c q r m s) : (r : Int) ≤ c.slots := by
  have := h.t.last.2.2
  rw [h.last,h.slots] at this
  exact this
theorem Run.at_ (h : Run c q r m s) : s.T.at_ = 2 + q * (c.slots + 1) + r := by
  unfold Tab.at_
  rw [s.T.len_open h.t,h.last,h.open_,h.slots]
  rfl
theorem mul_room (a b x y : Int) (h1 : x < a) (h2 : 0 ≤ b) (h3 : y ≤ b) (h4 : 0 ≤ x) (h5 : 0 ≤ y) : 0 ≤ 2 + x * (b + 1) + y ∧ 2 + x * (b + 1) + y < 2 + a * (b + 1) := by
  have e1 : 0 ≤ x * (b + 1) := Int.mul_nonneg h4 (by omega)
  have e2 : (x + 1) * (b + 1) ≤ a * (b + 1) := Int.mul_le_mul_of_nonneg_right (by omega) (by omega)
  have e3 : (x + 1) * (b + 1) = x * (b + 1) + (b + 1) := by rw [Int.add_mul,Int.one_mul]
  omega
theorem Run.at_in (h : Run c q r m s) : 0 ≤ s.T.at_ ∧ s.T.at_ < s.d.n := by
  rw [h.at_,h.n]
  have hs := h.t.slots
  rw [h.slots] at hs
  exact mul_room c.segs c.slots q r h.q_lt (by omega) h.r_le (by omega) (by omega)
theorem Run.free_no (h : Run c q r m s) : ∀ k,k ≤ q + 1 → s.T.freeTo k = []
  | 0,_ => rfl
  | k + 1,hk => by
    have hm : ¬ idx s.T.order (k : Int) < 0 := by
      have := idx_mem (l := s.T.order) (x := (k : Int)) (by rw [h.order];exact (upTo_mem q _).2 (by omega))
      omega
    rw [freeTo_no _ _ hm,h.free_no k (by omega)]
theorem Run.free (h : Run c q r m s) (hq : ((q + 1 : Nat) : Int) < c.segs) : ∃ l,s.T.freeTo s.T.segs.toNat = ((q + 1 : Nat) : Int) :: l := by
  have hn : idx s.T.order ((q + 1 : Nat) : Int) < 0 := by
    rcases Int.lt_or_le (idx s.T.order ((q + 1 : Nat) : Int)) 0 with h1 | h1
    · exact h1
    · have := idx_in h1
      rw [h.order] at this
      have := (upTo_mem q _).1 this
      omega
  have e : s.T.freeTo (q + 2) = [((q + 1 : Nat) : Int)] := by rw [freeTo_yes _ _ hn,h.free_no (q + 1) (Nat.le_refl _)];rfl
  obtain ⟨l,hl⟩ := freeTo_pre s.T s.T.segs.toNat (q + 2) (by rw [h.segs];omega)
  exact ⟨l,by rw [hl,e];rfl⟩
theorem Run.free_end (h : Run c q r m s) (hq : ((q + 1 : Nat) : Int) = c.segs) : s.T.freeTo s.T.segs.toNat = [] := h.free_no _ (by rw [h.segs];omega)
theorem Run.ok (h : Run c q r m s) (hm : m ≤ 10000) : s.Ok :=
  ⟨h.t,by rw [h.lsn];omega,by rw [h.gen];omega,by rw [h.pend];omega⟩
theorem Run.sealOk (h : Run c q r m s) (hm : m ≤ 10000) (epoch : Int) : (s.seal epoch).2.Ok := seal_ok (h.ok hm) epoch (by rw [h.lsn];omega) (by rw [h.pend];omega)
theorem Run.room (h : Run c q r m s) : s.T.room = 0 ↔ (r : Int) = c.slots ∧ ((q + 1 : Nat) : Int) = c.segs := by
  rw [s.T.room_none h.t,h.last,h.slots]
  have hq := h.q_lt
  constructor
  · rintro ⟨h1,h2⟩
    refine ⟨h1,?_⟩
    rcases Int.lt_or_le ((q + 1 : Nat) : Int) c.segs with h3 | h3
    · obtain ⟨l,hl⟩ := h.free h3
      rw [hl] at h2;cases h2
    · omega
  · rintro ⟨h1,h2⟩
    exact ⟨h1,h.free_end h2⟩
theorem writeS_pend {d : Dsk} {i : Int} {x : ByteArray} (h : d.writeE i x = 0) : (d.writeS i x).pend.length = d.pend.length + 1 ∧ (d.writeS i x).n = d.n := by
  unfold Dsk.writeS
  rw [if_pos h]
  exact ⟨pend_write d i x,rfl⟩
theorem Run.count (h : Run c q r m s) (hr : (r : Int) < c.slots) {x : ByteArray} (he : s.d.writeE s.T.at_ x = 0) : Run c q (r + 1) (m + 1) ⟨s.T.count,s.lsn + 1,s.gen,s.d.writeS s.T.at_ x⟩ := by
  obtain ⟨p1,p2⟩ := writeS_pend he
  refine ⟨h.segs,h.slots,h.order,?_,s.T.count_ok h.t (by rw [h.last,h.slots];exact hr),?_,h.gen,?_,?_⟩
  · show s.T.count.last = _
    rw [s.T.count_last h.t,h.last];omega
  · show s.lsn + 1 = _
    rw [h.lsn];omega
  · show (s.d.writeS _ _).pend.length = _
    rw [p1,h.pend]
  · show (s.d.writeS _ _).n = _
    rw [p2,h.n]
theorem Run.rolled (h : Run c q r m s) (hq : ((q + 1 : Nat) : Int) < c.segs) {x : ByteArray} (he : s.d.writeE s.T.at_ x = 0) (hm : m ≤ 10000) : Run c (q + 1) 0 (m + 1) ⟨s.T.roll ((q + 1 : Nat) : Int) (s.lsn + 1),s.lsn + 1,s.gen,s.d.writeS s.T.at_ x⟩ := by
  obtain ⟨p1,p2⟩ := writeS_pend he
  obtain ⟨l,hl⟩ := h.free hq
  have hf := (freeTo_mem s.T s.T.segs.toNat ((q + 1 : Nat) : Int)).1 (by rw [hl];simp)
  have hlsn := h.lsn
  refine ⟨h.segs,h.slots,?_,s.T.roll_last _ _,s.T.roll_ok h.t ⟨⟨by omega,by rw [h.segs];omega⟩,hf.2⟩ (by omega),?_,h.gen,?_,?_⟩
  · show s.T.order ++ _ = _
    rw [h.order,upTo_succ]
  · show s.lsn + 1 = _
    rw [h.lsn];omega
  · show (s.d.writeS _ _).pend.length = _
    rw [p1,h.pend]
  · show (s.d.writeS _ _).n = _
    rw [p2,h.n]
end
structure Puts (rc : Rec) : Prop where
  kind : rc.kind ≠ 3
  right : ∀ l : Int,1 ≤ l → ({ rc with lsn := l,epoch := 1 } : Rec).right = true
  fits : rc.Fits
theorem Puts.recOf {rc : Rec} (h : Puts rc) {s : LSt} (hs : s.Ok) : (s.recOf 1 rc).right = true ∧ (s.recOf 1 rc).Fits := by
  have hl := hs.lsn
  obtain ⟨h1,h2,h3,h4,h5,h6,h7⟩ := h.fits
  exact ⟨h.right s.lsn (by omega),⟨by show 0 ≤ s.lsn ∧ s.lsn < _;omega,by show (0 : Int) ≤ 1 ∧ (1 : Int) < _;omega,h3,h4,h5,h6,h7⟩⟩
section
variable {c : Cnf} {q r m : Nat} {s : LSt} {rc : Rec}
theorem Run.append_roll (h : Run c q r m s) (hm : m ≤ 10000) (hp : Puts rc) (hr : (r : Int) = c.slots) (hq : ((q + 1 : Nat) : Int) < c.segs) : s.append 1 rc = if (s.seal 1).1 = 0 then (s.seal 1).2.put 1 rc else ((s.seal 1).1,0,0,(s.seal 1).2) := by
  have hR := (hp.recOf (h.ok hm)).1
  unfold LSt.append
  rw [if_neg (fun h' => h'.elim hp.kind (fun h' => by rw [hR] at h';cases h')),if_neg (fun h' => by have := (h.room.1 h').2;omega),if_pos (by rw [h.last,h.slots];omega)]
theorem Run.append_full (h : Run c q r m s) (hm : m ≤ 10000) (hp : Puts rc) (hr : (r : Int) = c.slots) (hq : ((q + 1 : Nat) : Int) = c.segs) : s.append 1 rc = (10,0,0,s) := by
  have hR := (hp.recOf (h.ok hm)).1
  unfold LSt.append
  rw [if_neg (fun h' => h'.elim hp.kind (fun h' => by rw [hR] at h';cases h')),if_pos (h.room.2 ⟨hr,hq⟩)]
theorem Run.seal_is (h : Run c q r m s) (hq : ((q + 1 : Nat) : Int) < c.segs) (epoch : Int) : s.seal epoch = if rollE s.d s.T s.lsn epoch ((q + 1 : Nat) : Int) = 0 then (0,⟨s.T.roll ((q + 1 : Nat) : Int) (s.lsn + 1),s.lsn + 1,s.gen,s.d.writeS s.T.at_ (footR s.lsn epoch ((q + 1 : Nat) : Int)).sector⟩) else (rollE s.d s.T s.lsn epoch ((q + 1 : Nat) : Int),s) := by
  obtain ⟨l,hl⟩ := h.free hq
  unfold LSt.seal
  rw [hl]
end
end Go.Proofs.YtidacaihmjdmkaaGreat
namespace Go.Proofs.YtidacaihmjdmkaaGreat
open Go.RowKit
theorem lim_write (d : Dsk) (h : d.lim = true) (i : Int) (s : ByteArray) (hi : 0 ≤ i ∧ i < d.n) (hs : s.size = 128) (hb : 0 ≤ d.left ∧ d.left ≤ 1000) :
    (d.left < 1 → d.writeE i s = 9) ∧ (1 ≤ d.left → d.writeE i s = 0 ∧ (d.writeS i s).lim = true ∧ (d.writeS i s).left = d.left - 1) := by
  constructor
  · intro h1
    have hd : d.dead = true := by unfold Dsk.dead;rw [h,decide_eq_true h1];rfl
    unfold Dsk.writeE
    rw [if_pos hi,if_pos hs,hd];rfl
  · intro h1
    have hd : d.dead = false := by unfold Dsk.dead;rw [decide_eq_false (by omega)];exact Bool.and_false _
    have e : d.writeE i s = 0 := by
      unfold Dsk.writeE
      rw [if_pos hi,if_pos hs,hd];rfl
    refine ⟨e,?_,?_⟩
    · unfold Dsk.writeS
      rw [if_pos e]
      exact h
    · unfold Dsk.writeS
      rw [if_pos e]
      show wrap64 (d.left - 1) = _
      exact IntWalk.wrap64_in _ (by omega)
structure DRun (c : Cnf) (q r m : Nat) (n : Int) (s : LSt) : Prop where
  run : Run c q r m s
  lim : s.d.lim = true
  left : s.d.left = n
section
variable {c : Cnf} {q r m : Nat} {n : Int} {s : LSt} {rc : Rec}
theorem DRun.put (h : DRun c q r m n s) (hm : m ≤ 10000) (hn : 0 ≤ n ∧ n ≤ 1000) (hp : Puts rc) (hr : (r : Int) < c.slots) :
    (n < 1 → s.put 1 rc = (9,0,0,s)) ∧ (1 ≤ n → ∃ s',s.put 1 rc = (0,(q : Int),(r : Int),s') ∧ DRun c q (r + 1) (m + 1) (n - 1) s') := by
  have hR := (hp.recOf (h.run.ok hm)).1
  obtain ⟨w1,w2⟩ := lim_write s.d h.lim s.T.at_ (s.recOf 1 rc).sector h.run.at_in (Rec.sector_size hR) (by rw [h.left];exact hn)
  rw [h.left] at w1 w2
  constructor
  · intro h1
    unfold LSt.put
    rw [w1 h1,if_neg (by decide)]
  · intro h1
    obtain ⟨e,l1,l2⟩ := w2 h1
    refine ⟨_,?_,h.run.count hr e,l1,l2⟩
    unfold LSt.put
    rw [e,if_pos rfl,h.run.open_,h.run.last]
theorem DRun.roll (h : DRun c q r m n s) (hm : m ≤ 1000) (hn : 0 ≤ n ∧ n ≤ 1000) (hp : Puts rc) (hr : (r : Int) = c.slots) (hq : ((q + 1 : Nat) : Int) < c.segs) :
    (n < 2 → (s.append 1 rc).1 = 9) ∧ (2 ≤ n → ∃ s',s.append 1 rc = (0,((q + 1 : Nat) : Int),((0 : Nat) : Int),s') ∧ DRun c (q + 1) 1 (m + 2) (n - 2) s') := by
  have hok := h.run.ok (by omega)
  have hlsn := hok.lsn
  have hsl := h.run.t.slots
  have hsg := h.run.t.segs
  have hsegs := h.run.segs
  have hslots := h.run.slots
  rw [h.run.append_roll (by omega) hp hr hq,h.run.seal_is hq 1]
  obtain ⟨w1,w2⟩ := lim_write s.d h.lim s.T.at_ (footR s.lsn 1 ((q + 1 : Nat) : Int)).sector h.run.at_in (Rec.sector_size (footR_right _ _ _ (by omega) (by omega))) (by rw [h.left];exact hn)
  rw [h.left] at w1 w2
  by_cases h1 : n < 1
  · have e : rollE s.d s.T s.lsn 1 ((q + 1 : Nat) : Int) = 9 := w1 h1
    have h9 : ¬ ((9 : Int) = 0) := by decide
    simp only [e,if_neg h9]
    exact ⟨fun _ => trivial,fun h2 => absurd h2 (by omega)⟩
  · obtain ⟨e,l1,l2⟩ := w2 (by omega)
    have e' : rollE s.d s.T s.lsn 1 ((q + 1 : Nat) : Int) = 0 := e
    rw [e',if_pos rfl,if_pos rfl]
    have hR2 := h.run.rolled hq e (by omega)
    have hD : DRun c (q + 1) 0 (m + 1) (n - 1) ⟨s.T.roll ((q + 1 : Nat) : Int) (s.lsn + 1),s.lsn + 1,s.gen,s.d.writeS s.T.at_ (footR s.lsn 1 ((q + 1 : Nat) : Int)).sector⟩ := ⟨hR2,l1,l2⟩
    obtain ⟨p1,p2⟩ := hD.put (rc := rc) (by omega) (by omega) hp (by show ((0 : Nat) : Int) < _;omega)
    constructor
    · intro h2
      rw [p1 (by omega)]
    · intro h2
      obtain ⟨s',hs,hd⟩ := p2 (by omega)
      refine ⟨s',hs,?_⟩
      have : n - 1 - 1 = n - 2 := by omega
      rw [this] at hd
      exact hd
end
theorem Cnf.sectors_eq {c : Cnf} (h : c.may = true) : c.sectors = 2 + c.segs * (c.slots + 1) := by unfold Cnf.sectors;rw [if_pos h]
theorem right_lsn (rc : Rec) (l l' : Int) (h : ({ rc with lsn := l,epoch := 1 } : Rec).right = true) (h1 : l ≠ 0) (h2 : l' ≠ 0) : ({ rc with lsn := l',epoch := 1 } : Rec).right = true := by
  have e1 : (l == 0) = false := beq_eq_false_iff_ne.2 h1
  have e2 : (l' == 0) = false := beq_eq_false_iff_ne.2 h2
  unfold Rec.right at *
  dsimp only at *
  rw [e1] at h
  rw [e2]
  exact h
theorem puts_of {rc : Rec} (hk : rc.kind ≠ 3) (h : ({ rc with lsn := 1,epoch := 1 } : Rec).right = true) (hf : rc.Fits) : Puts rc :=
  ⟨hk,fun l hl => right_lsn rc 1 l h (by decide) (by omega),hf⟩
end Go.Proofs.YtidacaihmjdmkaaGreat
namespace Go.Proofs.YtidacaihmjdmkaaGreat
open Go.RowKit
structure GRun (c : Cnf) (m : Nat) (s : LSt) : Prop where
  segs : s.T.segs = c.segs
  slots : s.T.slots = c.slots
  t : s.T.Ok
  lsn : s.lsn = 1 + m
  gen : 0 ≤ s.gen ∧ s.gen ≤ 1000
  pend : s.d.pend.length ≤ m
  n : s.d.n = 2 + c.segs * (c.slots + 1)
  lim : s.d.lim = false
section
variable {c : Cnf} {m : Nat} {s : LSt} {rc : Rec}
theorem GRun.ok (h : GRun c m s) (hm : m ≤ 10000) : s.Ok :=
  ⟨h.t,by rw [h.lsn];omega,⟨h.gen.1,by have := h.gen.2;omega⟩,by have := h.pend;omega⟩
theorem GRun.sealOk (h : GRun c m s) (hm : m ≤ 10000) (epoch : Int) : (s.seal epoch).2.Ok := seal_ok (h.ok hm) epoch (by rw [h.lsn];omega) (by have := h.pend;omega)
theorem at_inside (T : Tab) (hT : T.Ok) : 0 ≤ T.at_ ∧ T.at_ < 2 + T.segs * (T.slots + 1) := by
  have ho : 0 ≤ T.open_ ∧ T.open_ < T.segs := hT.inn _ (List.mem_of_getElem? (T.open_at hT))
  have hl := T.len_in hT T.open_
  have hs := hT.slots
  unfold Tab.at_ secOf
  exact mul_room T.segs T.slots T.open_ (T.len T.open_) ho.2 (by omega) hl.2 ho.1 hl.1
theorem GRun.at_in (h : GRun c m s) : 0 ≤ s.T.at_ ∧ s.T.at_ < s.d.n := by
  have := at_inside s.T h.t
  rw [h.n, ← h.segs, ← h.slots]
  exact this
theorem GRun.puts (h : GRun c m s) (hm : m ≤ 10000) (hp : Puts rc) : (s.recOf 1 rc).right = true := (hp.recOf (h.ok hm)).1
theorem GRun.put (h : GRun c m s) (hm : m ≤ 10000) (hp : Puts rc) (hr : s.T.last < c.slots) :
    s.append 1 rc = (0,s.T.open_,s.T.last,⟨s.T.count,s.lsn + 1,s.gen,s.d.write s.T.at_ (s.recOf 1 rc).sector⟩) ∧ GRun c (m + 1) ⟨s.T.count,s.lsn + 1,s.gen,s.d.write s.T.at_ (s.recOf 1 rc).sector⟩ := by
  obtain ⟨T,lsn,gen,d⟩ := s
  have hne : T.last ≠ T.slots := by rw [show T.slots = c.slots from h.slots];exact Int.ne_of_lt hr
  refine ⟨app_put T lsn gen 1 d rc hp.kind (h.puts hm hp) (fun h0 => hne ((T.room_none h.t).1 h0).1) hne h.lim h.at_in,h.segs,h.slots,T.count_ok h.t (by rw [show T.slots = c.slots from h.slots];exact hr),?_,h.gen,?_,h.n,h.lim⟩
  · show lsn + 1 = _
    have := h.lsn
    show lsn + 1 = 1 + ((m + 1 : Nat) : Int)
    have h2 : lsn = 1 + (m : Int) := this
    omega
  · rw [pend_write]
    have : d.pend.length ≤ m := h.pend
    show d.pend.length + 1 ≤ m + 1
    omega
theorem GRun.roll (h : GRun c m s) (hm : m ≤ 10000) (hp : Puts rc) (hr : s.T.last = c.slots) {f : Int} {l : List Int} (hf : s.T.freeTo s.T.segs.toNat = f :: l) :
    s.append 1 rc = (0,f,0,⟨(s.T.roll f (s.lsn + 1)).count,s.lsn + 1 + 1,s.gen,(s.d.write s.T.at_ (footR s.lsn 1 f).sector).write (s.T.roll f (s.lsn + 1)).at_ ({ rc with lsn := s.lsn + 1,epoch := 1 } : Rec).sector⟩) ∧
      GRun c (m + 2) ⟨(s.T.roll f (s.lsn + 1)).count,s.lsn + 1 + 1,s.gen,(s.d.write s.T.at_ (footR s.lsn 1 f).sector).write (s.T.roll f (s.lsn + 1)).at_ ({ rc with lsn := s.lsn + 1,epoch := 1 } : Rec).sector⟩ := by
  obtain ⟨T,lsn,gen,d⟩ := s
  have hl : lsn = 1 + (m : Int) := h.lsn
  have hsg : T.segs = c.segs := h.segs
  have hsl : T.slots = c.slots := h.slots
  have hf' : T.freeTo T.segs.toNat = f :: l := hf
  have hfm := (freeTo_mem T T.segs.toNat f).1 (by rw [hf'];simp)
  have ht : T.Ok := h.t
  have htg := ht.segs
  have hts := ht.slots
  have hT2 : (T.roll f (lsn + 1)).Ok := T.roll_ok ht ⟨by omega,hfm.2⟩ (by omega)
  have hi2 := at_inside _ hT2
  have hn : d.n = 2 + c.segs * (c.slots + 1) := h.n
  have hroom : T.room ≠ 0 := fun h0 => by have := ((T.room_none ht).1 h0).2;rw [hf'] at this;cases this
  have ha := app_roll T lsn gen 1 f l d rc hp.kind (h.puts hm hp) (hp.right _ (by omega)) hroom (by rw [hsl];exact hr) h.lim (by omega) hf' (by omega) h.at_in (by rw [hn, ← hsg, ← hsl];exact hi2)
  rw [T.roll_open,T.roll_last] at ha
  refine ⟨ha,h.segs,h.slots,Tab.count_ok _ hT2 (by rw [T.roll_last];show 0 < T.slots;omega),?_,h.gen,?_,h.n,h.lim⟩
  · show lsn + 1 + 1 = 1 + ((m + 2 : Nat) : Int)
    omega
  · rw [pend_write,pend_write]
    have : d.pend.length ≤ m := h.pend
    show d.pend.length + 1 + 1 ≤ m + 2
    omega
theorem GRun.full (h : GRun c m s) (hm : m ≤ 10000) (hp : Puts rc) (hr : s.T.last = c.slots) (hf : s.T.freeTo s.T.segs.toNat = []) : s.append 1 rc = (10,0,0,s) := by
  have hR := h.puts hm hp
  unfold LSt.append
  rw [if_neg (fun h' => h'.elim hp.kind (fun h' => by rw [hR] at h';cases h')),if_pos ((s.T.room_none h.t).2 ⟨by rw [h.slots];exact hr,hf⟩)]
end
structure FRun (c : Cnf) (q r m : Nat) (s : LSt) : Prop where
  run : Run c q r m s
  lim : s.d.lim = false
section
variable {c : Cnf} {q r m : Nat} {s : LSt} {rc : Rec}
theorem FRun.g (h : FRun c q r m s) : GRun c m s := ⟨h.run.segs,h.run.slots,h.run.t,h.run.lsn,by rw [h.run.gen];omega,by rw [h.run.pend];omega,h.run.n,h.lim⟩
theorem FRun.put (h : FRun c q r m s) (hm : m ≤ 10000) (hp : Puts rc) (hr : (r : Int) < c.slots) : ∃ s',s.append 1 rc = (0,(q : Int),(r : Int),s') ∧ FRun c q (r + 1) (m + 1) s' := by
  have e := (free_write s.d h.lim s.T.at_ (s.recOf 1 rc).sector h.run.at_in (Rec.sector_size (h.g.puts hm hp)))
  have h1 := (h.g.put hm hp (by rw [h.run.last];exact hr)).1
  have h2 := h.run.count hr e.1
  rw [e.2] at h2
  rw [h.run.open_,h.run.last] at h1
  exact ⟨_,h1,h2,h.lim⟩
theorem FRun.roll (h : FRun c q r m s) (hm : m ≤ 1000) (hp : Puts rc) (hr : (r : Int) = c.slots) (hq : ((q + 1 : Nat) : Int) < c.segs) : ∃ s',s.append 1 rc = (0,((q + 1 : Nat) : Int),((0 : Nat) : Int),s') ∧ FRun c (q + 1) 1 (m + 2) s' := by
  obtain ⟨l,hl⟩ := h.run.free hq
  have h1 := (h.g.roll (rc := rc) (by omega) hp (by rw [h.run.last];exact hr) hl)
  have hsl := h.run.t.slots
  have hsg := h.run.t.segs
  rw [h.run.slots] at hsl
  have hlsn := h.run.lsn
  have hf16 : ((q + 1 : Nat) : Int) < 16 := by rw [h.run.segs] at hsg;omega
  have e := free_write s.d h.lim s.T.at_ (footR s.lsn 1 ((q + 1 : Nat) : Int)).sector h.run.at_in (Rec.sector_size (footR_right _ _ _ (by omega) hf16))
  have r1 := h.run.rolled hq e.1 (by omega)
  rw [e.2] at r1
  have e2 := free_write (s.d.write s.T.at_ (footR s.lsn 1 ((q + 1 : Nat) : Int)).sector) h.lim _ ({ rc with lsn := s.lsn + 1,epoch := 1 } : Rec).sector r1.at_in (Rec.sector_size (hp.right _ (by omega)))
  have r2 := r1.count (x := ({ rc with lsn := s.lsn + 1,epoch := 1 } : Rec).sector) (by omega) e2.1
  have e3 : (s.d.write s.T.at_ (footR s.lsn 1 ((q + 1 : Nat) : Int)).sector).writeS (s.T.roll ((q + 1 : Nat) : Int) (s.lsn + 1)).at_ ({ rc with lsn := s.lsn + 1,epoch := 1 } : Rec).sector = _ := e2.2
  refine ⟨_,h1.1,?_,h.lim⟩
  have r3 : Run c (q + 1) (0 + 1) (m + 1 + 1) ⟨(s.T.roll ((q + 1 : Nat) : Int) (s.lsn + 1)).count,s.lsn + 1 + 1,s.gen,(s.d.write s.T.at_ (footR s.lsn 1 ((q + 1 : Nat) : Int)).sector).writeS (s.T.roll ((q + 1 : Nat) : Int) (s.lsn + 1)).at_ ({ rc with lsn := s.lsn + 1,epoch := 1 } : Rec).sector⟩ := r2
  rw [e3] at r3
  exact r3
end
theorem idx_upTo (q k : Nat) (h : k ≤ q) : idx (upTo q) (k : Int) = k := by
  refine idx_at (upTo_at q k h) fun j hj he => ?_
  rw [upTo_at q j (by omega)] at he
  have := Option.some.inj he
  omega
theorem drop_last (T : Tab) (hT : T.Ok) (k : Nat) (hk : k + 1 < T.order.length) : (T.drop k).last = T.last := by
  have hl := hT.len
  unfold Tab.last Tab.drop
  show ((T.lens.eraseIdx k)[(T.lens.eraseIdx k).length - 1]?).getD 0 = _
  rw [List.length_eraseIdx,if_pos (by omega),List.getElem?_eraseIdx,if_neg (by omega)]
  congr 2
  omega
def dropS (s : LSt) (k : Nat) (ver : Int) : LSt := ⟨s.T.drop k,s.lsn,s.gen + 1,((s.d.flush).write ((s.gen + 1) % 2) ⟨((s.T.drop k).chk (s.gen + 1) 1 s.lsn ver).enc.toArray⟩).flush⟩
theorem GRun.drop {c : Cnf} {m : Nat} {s : LSt} (h : GRun c m s) (hg : s.gen ≤ 900) (k : Nat) (hk : k + 1 < s.T.order.length) (ver : Int) : GRun c m (dropS s k ver) := by
  obtain ⟨f1,f2,f3⟩ := flush_is ((s.d.flush).write ((s.gen + 1) % 2) ⟨((s.T.drop k).chk (s.gen + 1) 1 s.lsn ver).enc.toArray⟩)
  obtain ⟨g1,g2,g3⟩ := flush_is s.d
  have hgen := h.gen
  refine ⟨h.segs,h.slots,s.T.drop_ok h.t k hk,h.lsn,?_,?_,?_,?_⟩
  · show 0 ≤ s.gen + 1 ∧ s.gen + 1 ≤ 1000
    omega
  · show (dropS s k ver).d.pend.length ≤ m
    unfold dropS
    rw [f3]
    exact Nat.zero_le _
  · show (dropS s k ver).d.n = _
    unfold dropS
    rw [f2]
    show s.d.flush.n = _
    rw [g2]
    exact h.n
  · show (dropS s k ver).d.lim = false
    unfold dropS
    rw [f1]
    show s.d.flush.lim = false
    rw [g1]
    exact h.lim
theorem drop_free (T : Tab) (hT : T.Ok) (hall : T.order.length = T.segs.toNat) (k : Nat) (x : Int) (hx : T.order[k]? = some x) (hk : k + 1 < T.order.length) : (T.drop k).freeTo (T.drop k).segs.toNat = [x] := by
  have hd := T.drop_ok hT k hk
  have hsg := hT.segs
  have hlen := (T.drop k).free_length hd T.segs.toNat (by show T.segs = _;omega)
  have hol : (T.drop k).order.length = T.order.length - 1 := by
    show (T.order.eraseIdx k).length = _
    rw [List.length_eraseIdx,if_pos (by omega)]
  have h1 : ((T.drop k).freeTo T.segs.toNat).length = 1 := by omega
  have hni : ¬ x ∈ (T.drop k).order := fun hm => by
    obtain ⟨j,hj⟩ := List.mem_iff_getElem?.1 (show x ∈ T.order.eraseIdx k from hm)
    rw [List.getElem?_eraseIdx] at hj
    split at hj
    · have := idx_nodup hT.nodup hj
      have := idx_nodup hT.nodup hx
      omega
    · have := idx_nodup hT.nodup hj
      have := idx_nodup hT.nodup hx
      omega
  have hin := hT.inn x (List.mem_of_getElem? hx)
  have hmem : x ∈ (T.drop k).freeTo T.segs.toNat := (freeTo_mem (T.drop k) T.segs.toNat x).2 ⟨⟨hin.1,by omega⟩,by
    rcases Int.lt_or_le (idx (T.drop k).order x) 0 with h | h
    · exact h
    · exact absurd (idx_in h) hni⟩
  show (T.drop k).freeTo T.segs.toNat = [x]
  cases hf : (T.drop k).freeTo T.segs.toNat with
  | nil => rw [hf] at hmem;cases hmem
  | cons y l =>
    rw [hf] at hmem h1
    have : l = [] := by cases l with
      | nil => rfl
      | cons _ _ => simp at h1
    subst this
    have : x = y := by simpa using hmem
    rw [this]
theorem free_all (T : Tab) (hT : T.Ok) (hall : T.order.length = T.segs.toNat) : T.freeTo T.segs.toNat = [] := by
  have hsg := hT.segs
  have := T.free_length hT T.segs.toNat (by omega)
  exact List.eq_nil_of_length_eq_zero (by omega)
theorem puts_live (id : ByteArray) (hid : okID id.data.toList = true) (ver : Int) (hv : 0 ≤ ver ∧ ver < 18446744073709551616) : Puts (liveR id ver) := by
  have hs := okID_size hid
  have hv2 : okValue [118] = true := by decide
  refine puts_of (by show (1 : Int) ≠ 3;decide) ?_ ⟨by show (0 : Int) ≤ 0 ∧ (0 : Int) < _;omega,by show (0 : Int) ≤ 0 ∧ (0 : Int) < _;omega,by show (-9223372036854775808 : Int) ≤ 1 ∧ (1 : Int) ≤ 9223372036854775807;omega,hv,by show (0 : Int) ≤ 9 ∧ (9 : Int) < _;omega,by show id.size ≤ _;omega,by show (1 : Nat) ≤ _;omega⟩
  unfold Rec.right liveR
  simp [hid,hv2]
structure G2 (c : Cnf) (κ i m : Nat) (s : LSt) : Prop where
  g : GRun c m s
  at_ : (i = 0 ∧ s.T.last = c.slots ∧ s.T.freeTo s.T.segs.toNat = [(κ : Int)] ∧ s.T.order.length + 1 = s.T.segs.toNat) ∨ (1 ≤ i ∧ s.T.open_ = (κ : Int) ∧ s.T.last = i ∧ s.T.freeTo s.T.segs.toNat = [])
theorem G2.step {c : Cnf} {κ i m : Nat} {s : LSt} {rc : Rec} (h : G2 c κ i m s) (hi : (i : Int) < c.slots) (hm : m ≤ 10000) (hp : Puts rc) : ∃ m' s',m' ≤ m + 2 ∧ s.append 1 rc = (0,(κ : Int),(i : Int),s') ∧ G2 c κ (i + 1) m' s' := by
  have hsg := h.g.t.segs
  have hsl := h.g.t.slots
  have hls := h.g.lsn
  rcases h.at_ with ⟨rfl,h1,h2,h3⟩ | ⟨h0,h1,h2,h3⟩
  · obtain ⟨ha,hg⟩ := h.g.roll hm hp h1 h2
    have hfm := (freeTo_mem s.T s.T.segs.toNat (κ : Int)).1 (by rw [h2];simp)
    have hT2 : (s.T.roll (κ : Int) (s.lsn + 1)).Ok := s.T.roll_ok h.g.t ⟨⟨hfm.1.1,by omega⟩,hfm.2⟩ (by omega)
    refine ⟨m + 2,_,Nat.le_refl _,ha,hg, .inr ⟨by omega,?_,?_,?_⟩⟩
    · show (s.T.roll (κ : Int) (s.lsn + 1)).count.open_ = _
      rw [Tab.count_open,Tab.roll_open]
    · show (s.T.roll (κ : Int) (s.lsn + 1)).count.last = _
      rw [Tab.count_last _ hT2,Tab.roll_last];rfl
    · exact free_all (s.T.roll (κ : Int) (s.lsn + 1)) hT2 (by show (s.T.order ++ [(κ : Int)]).length = s.T.segs.toNat;rw [List.length_append];exact h3)
  · obtain ⟨ha,hg⟩ := h.g.put hm hp (by rw [h2];exact hi)
    rw [h1,h2] at ha
    refine ⟨m + 1,_,by omega,ha,hg, .inr ⟨by omega,h1,?_,h3⟩⟩
    show s.T.count.last = _
    rw [Tab.count_last _ h.g.t,h2];omega
theorem G2.full {c : Cnf} {κ i m : Nat} {s : LSt} {rc : Rec} (h : G2 c κ i m s) (hi : (i : Int) = c.slots) (hm : m ≤ 10000) (hp : Puts rc) : s.append 1 rc = (10,0,0,s) := by
  have hsl := h.g.t.slots
  rcases h.at_ with ⟨h0,_⟩ | ⟨h0,h1,h2,h3⟩
  · have := h.g.slots
    omega
  · exact h.g.full hm hp (by rw [h2];exact hi) h3
theorem FRun.dropped {c : Cnf} {q r m : Nat} {s : LSt} (h : FRun c q r m s) (hq : ((q + 1 : Nat) : Int) = c.segs) (hr : (r : Int) = c.slots) (κ : Nat) (hκ : κ < q) (ver : Int) : idx s.T.order (κ : Int) = κ ∧ κ + 1 < s.T.order.length ∧ G2 c κ 0 m (dropS s κ ver) := by
  have ho : s.T.order.length = q + 1 := by rw [h.run.order,upTo_len]
  have hsg := h.run.segs
  have hx : s.T.order[κ]? = some (κ : Int) := by rw [h.run.order,upTo_at q κ (by omega)]
  refine ⟨by rw [h.run.order];exact idx_upTo q κ (by omega),by omega,h.g.drop (by rw [h.run.gen];omega) κ (by omega) ver, .inl ⟨rfl,?_,?_,?_⟩⟩
  · show (s.T.drop κ).last = _
    rw [drop_last _ h.run.t κ (by omega),h.run.last];exact hr
  · exact drop_free s.T h.run.t (by rw [ho,hsg];omega) κ _ hx (by omega)
  · show (s.T.order.eraseIdx κ).length + 1 = s.T.segs.toNat
    rw [List.length_eraseIdx,if_pos (by omega),ho,hsg]
    omega
end Go.Proofs.YtidacaihmjdmkaaGreat
