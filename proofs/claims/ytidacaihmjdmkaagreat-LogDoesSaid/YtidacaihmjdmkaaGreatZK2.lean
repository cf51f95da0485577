/- What the laws of this seat lean on, part 2. -/
import Derived.Test.YtidacaihmjdmkaaGreatZK1
import Derived.Test.YtidacaihmjdmkaaGreatProg
import Derived.WalkKit
import Derived.Lib.Hide
import Derived.Laws.BitsAllLaws
import Derived.Deep.WholeRow
set_option linter.unusedSimpArgs false
set_option linter.unusedVariables false
set_option maxRecDepth 100000
namespace Go.Proofs.YtidacaihmjdmkaaGreat
open Go.RowKit
attribute [local go_sem high] run_mx run_mn
def nbyte (n : Int) (j : Nat) : Int := n / 2 ^ (8 * j) % 256
def putAt (n : Int) (k j : Nat) : Value := .int .u8 (if j < k then nbyte n j else 0)
def putCells (n : Int) (k : Nat) : Array Value := #[putAt n k 0,putAt n k 1,putAt n k 2,putAt n k 3,putAt n k 4,putAt n k 5,putAt n k 6,putAt n k 7]
theorem putCells_at (n : Int) (k j : Nat) (hj : j < 8) : (putCells n k)[j]? = some (putAt n k j) := by
  match j,hj with
  | 0,_ => rfl
  | 1,_ => rfl
  | 2,_ => rfl
  | 3,_ => rfl
  | 4,_ => rfl
  | 5,_ => rfl
  | 6,_ => rfl
  | 7,_ => rfl
theorem putCells_set (n : Int) (k : Nat) (_hk : k < 8) : (putCells n k).setIfInBounds k (.int .u8 (nbyte n k)) = putCells n (k + 1) := by
  apply Array.ext_getElem?
  intro j
  rw [Array.getElem?_setIfInBounds]
  by_cases hj : j < 8
  · rw [putCells_at n (k + 1) j hj,putCells_at n k j hj]
    by_cases e : k = j
    · rw [if_pos e,if_pos (show k < (putCells n k).size from _hk)]
      subst e
      unfold putAt;rw [if_pos (by omega)]
    · rw [if_neg e]
      unfold putAt
      by_cases h : j < k
      · rw [if_pos h,if_pos (by omega)]
      · rw [if_neg h,if_neg (by omega)]
  · rw [if_neg (by omega),Array.getElem?_eq_none (show (putCells n k).size ≤ j from (by show 8 ≤ j;omega)),Array.getElem?_eq_none (show (putCells n (k + 1)).size ≤ j from (by show 8 ≤ j;omega))]
def leB (n : Int) (k : Nat) : List UInt8 := (List.range k).map fun j => UInt8.ofNat (nbyte n j).toNat
def putB (n : Int) (k : Nat) : ByteArray := ⟨(leB n k).toArray⟩
theorem leB_len (n : Int) (k : Nat) : (leB n k).length = k := by simp [leB]
theorem nbyte_in (n : Int) (j : Nat) : 0 ≤ nbyte n j ∧ nbyte n j < 256 := by unfold nbyte;omega
theorem leB_at (n : Int) (k j : Nat) (hj : j < k) : ((leB n k)[j]'(by rw [leB_len];exact hj)).toNat = nbyte n j := by
  have := nbyte_in n j
  simp [leB]
  omega
theorem sizeOf_u8 (w : World) : (Go.sizeOf 5).run Tryz.prog w = .ok 1 w := by kernel_rfl
theorem run_arr8 (b k : Nat) (hk : k ≤ 8) (w : World) : (Instr.sliceAt 239 (.pointer (some ⟨b,0,none⟩)) none (some (.int .i64 k)) (some (.int .i64 k))).run Tryz.prog w = .ok (.slice (some ⟨b,0,none⟩) k k) w := by
  have h := run_sliceAt_array_hm w 239 ⟨b,0,none⟩ (P := Tryz.prog) (by kernel_rfl) .i64 .i64 (k : Int) (k : Int) (by omega) (by omega) (by rw [show Tryz.prog.arrayLen 239 = 8 from by kernel_rfl];omega)
  rw [h,show Tryz.prog.elem 239 = 5 from by kernel_rfl,sizeOf_u8]
  show Result.ok (slicedAt _ 0 k k 1) w = _
  unfold slicedAt
  have : (Addr.mk b 0 none).add (0 * 1) = ⟨b,0,none⟩ := rfl
  rw [this]
  simp
set_option maxRecDepth 100000 in
set_option maxHeartbeats 4000000 in
theorem Put_any (n : Int) (k : Nat) (hk : k ≤ 8) (_hn : 0 ≤ n ∧ n < 18446744073709551616) (w : World) :
    Calls Tryz.prog 154 #[.int .u64 n, .int .i64 k] w fun e w' => e = .returned (.string (putB n k)) ∧ Below w.heap.size w w' := by
  have e1 : mn (mx (k : Int) 0) 8 = k := by rw [mn_def,mx_def];omega
  go_enter Tryz.func154,Tryz.ntmps154
  go_wp2_with fail
  have hb : Blk (w.alloc (.cells (putCells n 0) 239)) w.heap.size 239 (putCells n 0) := Blk.new _ _ _
  have hB : Below w.heap.size w (w.alloc (.cells (putCells n 0) 239)) := (Below.refl _ _).alloc (Nat.le_refl _) _
  go_loopw [10] (fun i wr => ∃ j : Nat,j ≤ 8 ∧ i = .int .i64 j ∧ Blk wr w.heap.size 239 (putCells n j) ∧ Below w.heap.size w wr) (fun i _ => 8 - (intOf i).toNat)
  case atStart => exact ⟨0,by omega,rfl,hb,hB⟩
  case round =>
    clear hb hB
    obtain ⟨j,hj,rfl,hb,hB⟩ := hrel
    by_cases hlt : j < 8
    · have c1 := (hb.cell j).trans (putCells_at n j j hlt)
      have f1 := hb.frozen j
      go_wp2_with fail
      go_roundw
      case rel => exact ⟨j + 1,by omega,by go_num,by rw [← putCells_set n j hlt];exact hb.set_ _ _,hB.setCell (Nat.le_refl _) _⟩
      case measure => simp [intOf];omega
    · obtain rfl : j = 8 := by omega
      have hs := run_arr8 w.heap.size k hk wr
      have hbb : ByteBlk wr w.heap.size (leB n k) := ⟨fun j hj => by
        have hj' : j < k := by rw [leB_len] at hj;exact hj
        rw [hb.cell,putCells_at n 8 j (by omega),leB_at n k j hj']
        unfold putAt
        rw [if_pos (by omega)],fun j _ => hb.frozen j⟩
      have hc : (convert 100 9 (.slice (some ⟨w.heap.size,0,none⟩) k k)).run Tryz.prog wr = .ok (.string (putB n k)) wr := run_toString wr Tryz.underlying100 Tryz.underlying5 Tryz.underlying9 hbb (leB_len n k).symm
      go_wp2_with fail
      go_ret
      exact ⟨rfl,hB⟩
def leN : List UInt8 → Nat
  | [] => 0
  | b :: l => b.toNat + 256 * leN l
theorem leN_lt : ∀ l : List UInt8,leN l < 2 ^ (8 * l.length)
  | [] => by simp [leN]
  | b :: l => by
    have := leN_lt l
    have hb := b.toNat_lt
    rw [List.length_cons,show 8 * (l.length + 1) = 8 * l.length + 8 by omega,Nat.pow_add]
    show b.toNat + 256 * leN l < _
    omega
theorem leN_append (l m : List UInt8) : leN (l ++ m) = leN l + 2 ^ (8 * l.length) * leN m := by
  induction l with
  | nil => simp [leN]
  | cons b l ih =>
    rw [List.length_cons,show 8 * (l.length + 1) = 8 * l.length + 8 by omega,Nat.pow_add]
    show b.toNat + 256 * leN (l ++ m) = b.toNat + 256 * leN l + _
    rw [ih,Nat.mul_add,Nat.add_assoc,show (2 : Nat) ^ 8 = 256 from rfl,Nat.mul_left_comm,Nat.mul_assoc]
theorem leN_zeros (k : Nat) : leN (List.replicate k 0) = 0 := by
  induction k with
  | zero => rfl
  | succ k ih => rw [List.replicate_succ];show (0 : UInt8).toNat + 256 * leN _ = 0;rw [ih];rfl
theorem leN_take_succ (l : List UInt8) (k : Nat) (hk : k < l.length) : leN (l.take (k + 1)) = leN (l.take k) + 2 ^ (8 * k) * (l[k]).toNat := by
  rw [List.take_succ_eq_append_getElem hk,leN_append]
  have : (l.take k).length = k := by rw [List.length_take];omega
  rw [this]
  show _ + _ * (l[k].toNat + 256 * 0) = _
  rw [Nat.mul_zero,Nat.add_zero]
theorem or_byte (a x j : Nat) (ha : a < 2 ^ (8 * j)) (hx : x < 2 ^ 8) (hj : j < 8) : bits BinOp.or IntKind.u64 (a : Int) (IntKind.u64.wrap ((x : Int) * 2 ^ (8 * j))) = ((a + 2 ^ (8 * j) * x : Nat) : Int) := by
  have hp : 2 ^ (8 * j) * 2 ^ 8 ≤ 2 ^ 64 := by rw [← Nat.pow_add];exact Nat.pow_le_pow_right (by omega) (by omega)
  have hlt : 2 ^ (8 * j) * x + 2 ^ (8 * j) ≤ 2 ^ 64 := by
    have : 2 ^ (8 * j) * (x + 1) ≤ 2 ^ (8 * j) * 2 ^ 8 := Nat.mul_le_mul_left _ (by omega)
    rw [Nat.mul_add,Nat.mul_one] at this
    exact Nat.le_trans this hp
  have hp0 : 0 < 2 ^ (8 * j) := Nat.pow_pos (by omega)
  have hc : ((x : Int) * 2 ^ (8 * j)) = ((2 ^ (8 * j) * x : Nat) : Int) := by push_cast;rw [Int.mul_comm]
  have hw : IntKind.u64.wrap ((x : Int) * 2 ^ (8 * j)) = ((2 ^ (8 * j) * x : Nat) : Int) := by
    rw [hc,IntKind.wrap_u64]
    omega
  rw [hw,u64_or_nat a (2 ^ (8 * j) * x) (by omega) (by omega),Nat.or_comm, ← Nat.two_pow_add_eq_or_of_lt ha x,Nat.add_comm]
set_option maxRecDepth 100000 in
set_option maxHeartbeats 4000000 in
theorem Get_any (s : ByteArray) (hs : s.size ≤ 8) (w : World) :
    Calls Tryz.prog 115 #[.string s] w fun e w' => e = .returned (.int .u64 (leN s.data.toList)) ∧ Below w.heap.size w w' := by
  go_enter Tryz.func115,Tryz.ntmps115
  have hb0 : ByteBlk (w.alloc (.cells #[.int .u8 0, .int .u8 0, .int .u8 0, .int .u8 0, .int .u8 0, .int .u8 0, .int .u8 0, .int .u8 0] 239)) w.heap.size (List.replicate 8 0) := by
    have h := Blk.new w 239 #[.int .u8 0, .int .u8 0, .int .u8 0, .int .u8 0, .int .u8 0, .int .u8 0, .int .u8 0, .int .u8 0]
    refine ⟨fun j hj => ?_,fun j _ => h.frozen j⟩
    rw [h.cell]
    have hj : j < 8 := by simpa using hj
    match j,hj with
    | 0,_ => rfl
    | 1,_ => rfl
    | 2,_ => rfl
    | 3,_ => rfl
    | 4,_ => rfl
    | 5,_ => rfl
    | 6,_ => rfl
    | 7,_ => rfl
  have hs8 : s.size ≤ (List.replicate 8 (0 : UInt8)).length := by simpa using hs
  go_wp2_with (refine wpList_copyBytes (o := ⟨some 8,_,_,_,_,_⟩) _ rfl rfl Tryz.underlying100 sizeOf_u8 hb0 rfl rfl hs hs8 ?_;intro w1 hb hg hz;clear hb0)
  have hB : Below w.heap.size w w1 := ((Below.refl w.heap.size w).alloc (Nat.le_refl _) _).grown hg (by simp) (fun q e => by cases e;exact Nat.le_refl _)
  have hl8 : (s.data.toList ++ List.drop s.size (List.replicate 8 0)).length = 8 := by
    have : s.data.toList.length = s.size := by rw [Array.length_toList];rfl
    rw [List.length_append,List.length_drop,List.length_replicate,this];omega
  have hN : leN (s.data.toList ++ List.drop s.size (List.replicate 8 0)) = leN s.data.toList := by
    rw [leN_append,List.drop_replicate,leN_zeros,Nat.mul_zero,Nat.add_zero]
  have HN := Lib.hid hN
  clear hN hs8 hg hz hs
  generalize s.data.toList ++ List.drop s.size (List.replicate 8 0) = l at *
  go_loop [4,9] (fun n i => ∃ j : Nat,j ≤ 8 ∧ i = .int .i64 j ∧ n = .int .u64 (leN (l.take j))) (fun _ i => 8 - (intOf i).toNat)
  case atStart => exact ⟨0,by omega,rfl,rfl⟩
  case round =>
    obtain ⟨j,hj,rfl,rfl⟩ := hrel
    by_cases hlt : j < 8
    · have c1 := hb.cell j (by omega)
      have hx := (l[j]'(by omega)).toNat_lt
      have hstep := leN_take_succ l j (by omega)
      have hlow := leN_lt (l.take j)
      rw [List.length_take,hl8,Nat.min_eq_left (by omega)] at hlow
      generalize leN (l.take j) = a at *
      generalize (l[j]'(by omega)).toNat = x at *
      have hor := Lib.hid (or_byte a x j hlow hx hlt)
      go_wp2_with fail
      go_round
      case rel => exact ⟨j + 1,by omega,by go_num,by rw [hor.out,hstep]⟩
      case measure => simp [intOf];omega
    · obtain rfl : j = 8 := by omega
      have ht : l.take 8 = l := List.take_of_length_le (by omega)
      have HT := Lib.hid ht
      clear ht
      go_wp2_with fail
      go_ret
      exact ⟨by first | rfl | (rw [← HN.out, ← HT.out];rfl) | (show Ending.returned (.int .u64 (leN _)) = _;rw [HT.out,HN.out]),hB⟩
end Go.Proofs.YtidacaihmjdmkaaGreat
namespace Go.Proofs.YtidacaihmjdmkaaGreat
open Go.RowKit
attribute [local go_sem high] run_mx run_mn
theorem Size_any (n : Int) (w : World) : Calls Tryz.prog 179 #[.int .i64 n] w fun e w' => e = .returned (.int .i64 (mx 0 (mn n 8))) ∧ w = w' := by
  go_enter Tryz.func179,Tryz.ntmps179
  go_wp2
  go_ret
  exact ⟨rfl,rfl⟩
theorem conv_byte (w : World) (x : Int) (hx : 0 ≤ x ∧ x ≤ 255) : (convert 100 9 (.slice (some ⟨w.heap.size,0,none⟩) 1 1)).run Tryz.prog (w.alloc (.cells #[.int .u8 x] 5)) = .ok (.string ⟨#[UInt8.ofNat x.toNat]⟩) (w.alloc (.cells #[.int .u8 x] 5)) := by
  have hb : ByteBlk (w.alloc (.cells #[.int .u8 x] 5)) w.heap.size [UInt8.ofNat x.toNat] := by
    have h := Blk.new w 5 #[.int .u8 x]
    have hv : ((UInt8.ofNat x.toNat).toNat : Int) = x := by
      rw [UInt8.toNat_ofNat',Nat.mod_eq_of_lt (by omega)];omega
    refine ⟨fun j hj => ?_,fun j _ => h.frozen j⟩
    obtain rfl : j = 0 := by simp at hj;exact hj
    rw [h.cell]
    show some (Value.int .u8 x) = some (.int .u8 ((UInt8.ofNat x.toNat).toNat : Int))
    rw [hv]
  exact run_toString _ Tryz.underlying100 Tryz.underlying5 Tryz.underlying9 hb rfl
theorem putB_succ (n : Int) (j : Nat) : putB n (j + 1) = putB n j ++ ⟨#[UInt8.ofNat (nbyte n j).toNat]⟩ := by
  apply ByteArray.ext
  apply Array.toList_inj.1
  unfold putB leB
  simp [List.range_succ]
theorem putB_size (n : Int) (j : Nat) : (putB n j).size = j := by
  show (leB n j).toArray.size = j
  rw [List.size_toArray,leB_len]
set_option maxRecDepth 100000 in
set_option maxHeartbeats 4000000 in
theorem RPut_any (n : Int) (k : Nat) (hk : k ≤ 8) (hn : 0 ≤ n ∧ n < 18446744073709551616) (w : World) :
    Calls Tryz.prog 161 #[.int .u64 n, .int .i64 k] w fun e w' => e = .returned (.string (putB n k)) ∧ Below w.heap.size w w' := by
  have e1 : mx 0 (mn (k : Int) 8) = k := by rw [mn_def,mx_def];omega
  go_enter Tryz.func161,Tryz.ntmps161
  go_wp2_with fail
  go_loopw [0,5,6] (fun m s i wr => ∃ j : Nat,j ≤ k ∧ i = .int .i64 j ∧ m = .int .u64 (n / 2 ^ (8 * j)) ∧ s = .string (putB n j) ∧ Below w.heap.size w wr) (fun _ _ i _ => k - (intOf i).toNat)
  case atStart => exact ⟨0,by omega,rfl,by simp,rfl,Below.refl _ _⟩
  case round =>
    obtain ⟨j,hj,rfl,rfl,rfl,hB⟩ := hrel
    by_cases hlt : j < k
    · have hlt' : (j : Int) < (k : Int) := by omega
      have hnb := nbyte_in n j
      have hcv := conv_byte wr (nbyte n j) (by omega)
      have hadd : ∀ w,(Op.stringOp .add (putB n j) ⟨#[UInt8.ofNat (nbyte n j).toNat]⟩).run Tryz.prog w = .ok (.string (putB n (j + 1))) w := fun w => by
        rw [run_string_add_sum, ← putB_succ]
        rw [putB_size];show j + 1 ≤ _;omega
      have hd : n / 2 ^ (8 * j) / 256 = n / 2 ^ (8 * (j + 1)) := by
        rw [Int.ediv_ediv_of_nonneg (by exact Int.pow_nonneg (by omega)),show 8 * (j + 1) = 8 * j + 8 by omega,Int.pow_add];rfl
      have hm0 : 0 ≤ n / 2 ^ (8 * j) := Int.ediv_nonneg hn.1 (Int.pow_nonneg (by omega))
      have hv1 : n / 2 ^ (8 * j) % 256 = nbyte n j := rfl
      have hv2 : (n / 2 ^ (8 * j)).tdiv 256 = n / 2 ^ (8 * (j + 1)) := by rw [Int.tdiv_eq_ediv_of_nonneg hm0];exact hd
      go_wp2_with (first | (go_at_call 179;refine (Size_any _ _).mono ?_;rintro e w' ⟨rfl,rfl⟩))
      go_roundw
      case rel => exact ⟨j + 1,by omega,by go_num,by rw [IntKind.wrap_u64];congr 1;have h1 : 0 ≤ n / 2 ^ (8 * (j + 1)) := Int.ediv_nonneg hn.1 (Int.pow_nonneg (by omega));have h2 : n / 2 ^ (8 * (j + 1)) ≤ n := Int.ediv_le_self _ hn.1;omega,rfl,hB.alloc hB.size _⟩
      case measure => simp [intOf];omega
    · obtain rfl : j = k := by omega
      have hlt' : ¬ ((j : Int) < (j : Int)) := by omega
      go_wp2_with (first | (go_at_call 179;refine (Size_any _ _).mono ?_;rintro e w' ⟨rfl,rfl⟩))
      go_ret
      exact ⟨rfl,hB⟩
set_option maxRecDepth 100000 in
set_option maxHeartbeats 4000000 in
theorem RGet_any (s : ByteArray) (hs : s.size ≤ 8) (w : World) :
    Calls Tryz.prog 166 #[.string s] w fun e w' => e = .returned (.int .u64 (leN s.data.toList)) ∧ w = w' := by
  go_enter Tryz.func166,Tryz.ntmps166
  have e1 : mn (s.size : Int) 8 = s.size := by rw [mn_def];omega
  have hl : s.data.toList.length = s.size := by rw [Array.length_toList];rfl
  go_wp2_with fail
  go_loop [3,4] (fun m i => ∃ j : Nat,j ≤ s.size ∧ i = .int .i64 ((j : Int) - 1) ∧ m = .int .u64 (leN (s.data.toList.drop j))) (fun _ i => (intOf i + 1).toNat)
  case atStart => exact ⟨s.size,by omega,rfl,by rw [List.drop_of_length_le (by omega)];rfl⟩
  case round =>
    obtain ⟨j,hj,rfl,rfl⟩ := hrel
    by_cases hlt : 1 ≤ j
    · have hlt' : (1 : Int) ≤ (j : Int) := by omega
      have hlow := leN_lt (s.data.toList.drop j)
      rw [List.length_drop,hl] at hlow
      have hlow2 : leN (s.data.toList.drop j) < 2 ^ 56 := Nat.lt_of_lt_of_le hlow (Nat.pow_le_pow_right (by omega) (by omega))
      have hstep : leN (s.data.toList.drop (j - 1)) = (s.data.toList[j - 1]'(by omega)).toNat + 256 * leN (s.data.toList.drop j) := by
        rw [List.drop_eq_getElem_cons (by omega : j - 1 < s.data.toList.length),show j - 1 + 1 = j by omega];rfl
      have hx := (s.data.toList[j - 1]'(by omega)).toNat_lt
      have hv : IntKind.u64.wrap ((leN (s.data.toList.drop j) : Int) * 256 + IntKind.u64.wrap ((s.data.toList[j - 1]'(by omega)).toNat : Int)) = (leN (s.data.toList.drop (j - 1)) : Int) := by
        rw [hstep,IntKind.wrap_u64,IntKind.wrap_u64];omega
      have HV := Lib.hid hv
      clear hv hstep hlow hx
      go_wp2_with fail
      go_round
      case rel => exact ⟨j - 1,by omega,by congr 1;omega,by rw [← HV.out];rfl⟩
      case measure => simp [intOf];omega
    · obtain rfl : j = 0 := by omega
      go_wp2_with fail
      go_ret
      exact ⟨rfl,rfl⟩
end Go.Proofs.YtidacaihmjdmkaaGreat
namespace Go.Proofs.YtidacaihmjdmkaaGreat
open Go.RowKit
attribute [local go_sem high] run_mx run_mn
def stepC (r : Nat) : Nat := if r % 2 = 1 then (r / 2) ^^^ 3988292384 else r / 2
def stepsC : Nat → Nat → Nat
  | 0,r => r
  | k + 1,r => stepC (stepsC k r)
def tabC (i : Nat) : Nat := stepsC 8 i
theorem stepC_lt {r : Nat} (h : r < 4294967296) : stepC r < 4294967296 := by
  unfold stepC
  split
  · exact Nat.xor_lt_two_pow (n := 32) (by omega) (by omega)
  · omega
theorem stepsC_lt (k : Nat) {r : Nat} (h : r < 4294967296) : stepsC k r < 4294967296 := by
  induction k with
  | zero => exact h
  | succ k ih => exact stepC_lt ih
def crcTabAt (i j : Nat) : Value := .int .u32 ((if j < i then tabC j else 0 : Nat) : Int)
def crcCells (i : Nat) : Array Value := ((List.range 256).map (crcTabAt i)).toArray
theorem crcCells_size (i : Nat) : (crcCells i).size = 256 := by simp [crcCells]
theorem crcCells_at (i j : Nat) (hj : j < 256) : (crcCells i)[j]? = some (crcTabAt i j) := by
  unfold crcCells
  rw [List.getElem?_toArray,List.getElem?_map,List.getElem?_range hj];rfl
theorem crcCells_set (k : Nat) (hk : k < 256) : (crcCells k).setIfInBounds k (.int .u32 (tabC k : Int)) = crcCells (k + 1) := by
  apply Array.ext_getElem?
  intro j
  rw [Array.getElem?_setIfInBounds,crcCells_size]
  by_cases hj : j < 256
  · rw [crcCells_at (k + 1) j hj,crcCells_at k j hj]
    by_cases e : k = j
    · rw [if_pos e,if_pos hk]
      subst e
      unfold crcTabAt;rw [if_pos (by omega)]
    · rw [if_neg e]
      unfold crcTabAt
      by_cases h : j < k
      · rw [if_pos h,if_pos (by omega)]
      · rw [if_neg h,if_neg (by omega)]
  · rw [if_neg (by omega),Array.getElem?_eq_none (by rw [crcCells_size];omega),Array.getElem?_eq_none (by rw [crcCells_size];omega)]
theorem zero256 : (Tryz.prog.info? 279).map (fun i => (i.zero,i.size)) = some (some (.agg (crcCells 0)),256) := by kernel_rfl
set_option maxRecDepth 100000 in
set_option maxHeartbeats 4000000 in
theorem rests_any (w : World) :
    Calls Tryz.prog 193 #[] w fun e w' => e = .returned (.agg (crcCells 256)) ∧ Below w.heap.size w w' := by
  obtain ⟨hz,hi⟩ := zero_of_info zero256
  have h0 : Blk (w.alloc (.cells (crcCells 0) 279)) w.heap.size 279 (crcCells 0) := Blk.new _ _ _
  have hs := crcCells_size 0
  go_enter Tryz.func193,Tryz.ntmps193
  generalize hT0 : crcCells 0 = T0 at *
  go_wp2_with fail
  have h1 : Blk ((w.alloc (.cells T0 279)).alloc (.cells T0 279)) (w.heap.size + 1) 279 T0 := by
    have := Blk.new (w.alloc (.cells T0 279)) 279 T0
    rwa [show (w.alloc (.cells T0 279)).heap.size = w.heap.size + 1 by simp] at this
  have h2 := h0.alloc (.cells T0 279)
  have hB : Below w.heap.size w ((w.alloc (.cells T0 279)).alloc (.cells T0 279)) := ((Below.refl _ _).alloc (Nat.le_refl _) _).alloc (by simp) _
  go_loopw [4] (fun i wr => ∃ j : Nat,j ≤ 256 ∧ i = .int .i64 j ∧ Blk wr (w.heap.size + 1) 279 (crcCells j) ∧ Blk wr w.heap.size 279 T0 ∧ Below w.heap.size w wr) (fun i _ => 256 - (intOf i).toNat)
  case atStart => exact ⟨0,by omega,rfl,by rw [hT0];exact h1,h2,hB⟩
  case round =>
    clear h0 h1 h2 hB
    obtain ⟨j,hj,rfl,hb,hr,hB⟩ := hrel
    by_cases hlt : j < 256
    · have c1 := (hb.cell j).trans (crcCells_at j j hlt)
      have f1 := hb.frozen j
      go_wp2_with fail
      go_loop [3,9] (fun r i => ∃ m : Nat,m ≤ 8 ∧ i = .int .i64 m ∧ r = .int .u32 (stepsC m j)) (fun _ i => 8 - (intOf i).toNat)
      case atStart => exact ⟨0,by omega,rfl,rfl⟩
      case round =>
        obtain ⟨m,hm,rfl,rfl⟩ := hrel
        by_cases hlm : m < 8
        · have hrl := stepsC_lt m (r := j) (by omega)
          have hst : stepsC (m + 1) j = stepC (stepsC m j) := rfl
          generalize stepsC m j = r at *
          have hand : bits BinOp.and IntKind.u32 (r : Int) 1 = ((r % 2 : Nat) : Int) := by
            have := u32_and_nat r 1 hrl (by omega)
            rw [Nat.and_one_is_mod] at this
            exact this
          by_cases hodd : r % 2 = 1
          · have hx := u32_xor_nat (r / 2) 3988292384 (by omega) (by omega)
            have hst2 : stepsC (m + 1) j = (r / 2) ^^^ 3988292384 := by rw [hst];exact if_pos hodd
            have HS := Lib.hid hst2
            rw [hodd] at hand
            clear hst hst2 hodd
            have hx : bits BinOp.xor IntKind.u32 ((r : Int) / 2) 3988292384 = ((r / 2 ^^^ 3988292384 : Nat) : Int) := hx
            go_wp2_with fail
            go_round
            case rel => exact ⟨m + 1,by omega,by go_num,by rw [HS.out]⟩
            case measure => simp [intOf];omega
          · have hev : r % 2 = 0 := by omega
            have hst2 : stepsC (m + 1) j = r / 2 := by rw [hst];exact if_neg hodd
            have HS := Lib.hid hst2
            rw [hev] at hand
            clear hst hst2 hodd hev
            go_wp2_with fail
            go_round
            case rel => exact ⟨m + 1,by omega,by go_num,by rw [HS.out];rfl⟩
            case measure => simp [intOf];omega
        · obtain rfl : m = 8 := by omega
          go_wp2_with fail
          go_roundw
          case rel => exact ⟨j + 1,by omega,by go_num,by rw [← crcCells_set j hlt];exact hb.set_ _ _,hr.far (by show w.heap.size ≠ w.heap.size + 1;omega) _,hB.setCell (by show w.heap.size ≤ w.heap.size + 1;omega) _⟩
          case measure => simp [intOf];omega
    · obtain rfl : j = 256 := by omega
      have hl : (loadVar 279 ⟨w.heap.size + 1,0,none⟩).run Tryz.prog wr = .ok (.agg (crcCells 256)) wr := run_loadVar_row wr _ _ _ _ (0,0) _ hb Tryz.underlying279 rfl (by rw [crcCells_size];exact hi)
      go_wp2_with fail
      unfold Oper.wp
      simp only [execOp,Act.eval,Instr.loadAt,Instr.sureAddr,Sem.run_bind,Sem.run_pure]
      change Oper.upon _ _ _ _ _ (((loadVar 279 ⟨w.heap.size + 1,0,none⟩).run Tryz.prog wr).andThen fun a w' => Result.ok (Next.value a) w')
      rw [hl,Result.andThen_ok,Oper.upon_value]
      have hst := run_storeVar_row wr w.heap.size 279 279 T0 (crcCells 256) (P := Tryz.prog) hr (by rw [crcCells_size];exact hi) (by rw [hs,crcCells_size]) (by unfold crcCells;simp [crcTabAt,Value.oneCell'])
      have hsc : (storeCells ⟨w.heap.size,0,none⟩ (crcCells 256).toList).run Tryz.prog wr = .ok () (wr.setRow w.heap.size (crcCells 256)) := by
        cases hq : Tryz.prog.info? 279 with
        | none => simp [hq] at hi
        | some i =>
          have hs' : (crcCells 256).size = i.size := by rw [crcCells_size];simp [hq] at hi;omega
          simpa [storeVar,sizeOf,typeInfo,hq,Value.cells,hs'] using hst
      have hb2 : Blk (wr.setRow w.heap.size (crcCells 256)) w.heap.size 279 (crcCells 256) := by
        unfold Blk World.setRow
        simp only [Array.getElem?_modify,if_true]
        rw [show wr.heap[w.heap.size]? = _ from hr];rfl
      have hld : (loadVar 279 ⟨w.heap.size,0,none⟩).run Tryz.prog (wr.setRow w.heap.size (crcCells 256)) = .ok (.agg (crcCells 256)) (wr.setRow w.heap.size (crcCells 256)) := run_loadVar_row _ _ _ _ _ (0,0) _ hb2 Tryz.underlying279 rfl (by rw [crcCells_size];exact hi)
      have hB2 : Below w.heap.size w (wr.setRow w.heap.size (crcCells 256)) := hB.trans ⟨rfl,rfl,rfl,by simp [World.setRow],fun k hk => by
        simp only [World.setRow,Array.getElem?_modify]
        rw [if_neg (by omega)]⟩
      clear hst hl hb hr hB
      go_wp2_with fail
      (try simp only [Exit.inBlock,Exit.then])
      refine bodyPost_ret (v := .agg (crcCells 256)) ?_ rfl ⟨rfl,hB2⟩
      exact results_cell_row rfl _ _ w.heap.size _ (crcCells 256) (0,0) _ rfl hb2 Tryz.underlying279 rfl (by rw [crcCells_size];exact hi)
end Go.Proofs.YtidacaihmjdmkaaGreat
namespace Go.Proofs.YtidacaihmjdmkaaGreat
open Go.RowKit
attribute [local go_sem high] run_mx run_mn
def nextC (r : Nat) (c : UInt8) : Nat := tabC ((r % 256) ^^^ c.toNat) ^^^ (r / 256)
def moreC (r : Nat) (l : List UInt8) : Nat := l.foldl nextC r
def crcOf (l : List UInt8) : Nat := moreC 4294967295 l ^^^ 4294967295
theorem tabC_lt {i : Nat} (h : i < 4294967296) : tabC i < 4294967296 := stepsC_lt 8 h
theorem xor_lt8 {a b : Nat} (ha : a < 256) (hb : b < 256) : a ^^^ b < 256 := Nat.xor_lt_two_pow (n := 8) ha hb
theorem xor_lt32 {a b : Nat} (ha : a < 4294967296) (hb : b < 4294967296) : a ^^^ b < 4294967296 := Nat.xor_lt_two_pow (n := 32) ha hb
theorem nextC_lt {r : Nat} (h : r < 4294967296) (c : UInt8) : nextC r c < 4294967296 := by
  have hc := c.toNat_lt
  unfold nextC
  refine xor_lt32 (tabC_lt ?_) (by omega)
  have := xor_lt8 (a := r % 256) (b := c.toNat) (by omega) (by omega)
  omega
theorem moreC_lt (l : List UInt8) : ∀ {r : Nat},r < 4294967296 → moreC r l < 4294967296 := by
  induction l with
  | nil => intro r h;exact h
  | cons c l ih => intro r h;exact ih (nextC_lt h c)
theorem moreC_succ (l : List UInt8) (r k : Nat) (hk : k < l.length) : moreC r (l.take (k + 1)) = nextC (moreC r (l.take k)) l[k] := by
  rw [List.take_succ_eq_append_getElem hk]
  unfold moreC
  rw [List.foldl_append];rfl
theorem crcOf_lt (l : List UInt8) : crcOf l < 4294967296 := xor_lt32 (moreC_lt l (by omega)) (by omega)
set_option maxRecDepth 100000 in
set_option maxHeartbeats 4000000 in
theorem More_any (s : ByteArray) (hs : s.size ≤ 9223372036854775807) (w : World) :
    Calls Tryz.prog 178 #[.int .u32 0, .string s] w fun e w' => e = .returned (.int .u32 (crcOf s.data.toList)) ∧ Below w.heap.size w w' := by
  obtain ⟨hz,hi⟩ := zero_of_info zero256
  have hsc : ∀ w : World,(storeCells ⟨w.heap.size,0,none⟩ (crcCells 256).toList).run Tryz.prog (w.alloc (.cells (crcCells 0) 279)) = .ok () (w.alloc (.cells (crcCells 256) 279)) := fun w =>
    run_storeCells_new w _ _ _ (by rw [crcCells_size];exact hi) (by rw [crcCells_size,crcCells_size]) (by unfold crcCells;simp [crcTabAt,Value.oneCell'])
  have hs0 := crcCells_size 0
  have hs1 := crcCells_size 256
  have hsg : IntKind.u32.signed = false := rfl
  have hmax : bits BinOp.xor IntKind.u32 IntKind.u32.max 0 = ((4294967295 : Nat) : Int) := by decide +kernel
  have hfin : ∀ r : Nat,r < 4294967296 → bits BinOp.xor IntKind.u32 IntKind.u32.max (r : Int) = ((r ^^^ 4294967295 : Nat) : Int) := fun r hr => by
    rw [Nat.xor_comm];exact u32_xor_nat 4294967295 r (by omega) hr
  go_enter Tryz.func178,Tryz.ntmps178
  generalize hT0 : crcCells 0 = T0 at *
  generalize hT1 : crcCells 256 = T1 at *
  go_wp2_with (first | (go_at_call 193;refine (rests_any _).mono ?_;rw [hT1];rintro e w' ⟨rfl,hB⟩))
  have hb : Blk (w'.alloc (.cells T1 279)) w'.heap.size 279 T1 := Blk.new _ _ _
  have hB2 := hB.alloc hB.size (.cells T1 279)
  generalize w'.alloc (.cells T1 279) = w2 at *
  have hl : s.data.toList.length = s.size := by rw [Array.length_toList];rfl
  clear hsc hz hB
  go_loop [6,13] (fun r i => ∃ j : Nat,j ≤ s.size ∧ i = .int .i64 j ∧ r = .int .u32 (moreC 4294967295 (s.data.toList.take j))) (fun _ i => s.size - (intOf i).toNat)
  case atStart => exact ⟨0,by omega,rfl,rfl⟩
  case round =>
    obtain ⟨j,hj,rfl,rfl⟩ := hrel
    by_cases hlt : j < s.size
    · have hrl := moreC_lt (s.data.toList.take j) (r := 4294967295) (by omega)
      have hst := moreC_succ s.data.toList 4294967295 j (by omega)
      generalize moreC 4294967295 (s.data.toList.take j) = r at *
      have hlt' : (j : Int) < (s.size : Int) := by omega
      have hsj : s[j] = s.data.toList[j]'(by omega) := rfl
      have hx := (s.data.toList[j]'(by omega)).toNat_lt
      unfold nextC at hst
      generalize s.data.toList[j]'(by omega) = x at *
      have q1 : bits BinOp.xor IntKind.u8 ((r : Int) % 256) (x.toNat : Int) = (((r % 256) ^^^ x.toNat : Nat) : Int) := u8_xor_nat (r % 256) x.toNat (by omega) (by omega)
      have hq := xor_lt8 (a := r % 256) (b := x.toNat) (by omega) (by omega)
      generalize (r % 256) ^^^ x.toNat = q at *
      have c1 : w2.cell? ⟨w'.heap.size,q,none⟩ = some (.int .u32 (tabC q : Int)) := by
        rw [hb.cell, ← hT1,crcCells_at 256 q hq];unfold crcTabAt;rw [if_pos hq]
      have ht := tabC_lt (i := q) (by omega)
      have q2 : bits BinOp.xor IntKind.u32 (tabC q : Int) ((r : Int) / 256) = ((tabC q ^^^ (r / 256) : Nat) : Int) := u32_xor_nat (tabC q) (r / 256) ht (by omega)
      have HS := Lib.hid hst
      clear hst hfin hmax
      go_wp2_with fail
      go_round
      case rel => exact ⟨j + 1,by omega,by go_num,by rw [HS.out]⟩
      case measure => simp [intOf];omega
    · obtain rfl : j = s.size := by omega
      have hrl := moreC_lt s.data.toList (r := 4294967295) (by omega)
      have e := hfin _ hrl
      have ht : s.data.toList.take s.size = s.data.toList := List.take_of_length_le (by omega)
      rw [← ht] at e
      go_wp2_with fail
      go_ret
      exact ⟨rfl,hB2⟩
theorem Sum_any (s : ByteArray) (hs : s.size ≤ 9223372036854775807) (w : World) :
    Calls Tryz.prog 155 #[.string s] w fun e w' => e = .returned (.int .u32 (crcOf s.data.toList)) ∧ Below w.heap.size w w' := by
  go_enter Tryz.func155,Tryz.ntmps155
  go_wp2_with (first | (go_at_call 178;refine (More_any s hs _).mono ?_;rintro e w' ⟨rfl,hB⟩))
  go_ret
  exact ⟨rfl,hB⟩
theorem stepC_xor (a b : Nat) : stepC (a ^^^ b) = stepC a ^^^ stepC b := by
  have h1 : (a ^^^ b) / 2 = a / 2 ^^^ b / 2 := Nat.xor_div_two
  have h2 : (a ^^^ b) % 2 = (a % 2) ^^^ (b % 2) := Nat.xor_mod_two_pow (n := 1)
  unfold stepC
  rw [h1,h2]
  rcases Nat.mod_two_eq_zero_or_one a with ha | ha <;> rcases Nat.mod_two_eq_zero_or_one b with hb | hb
  · rw [ha,hb];simp
  · rw [ha,hb];simp [Nat.xor_assoc]
  · rw [ha,hb];simp [Nat.xor_assoc]
    rw [Nat.xor_comm (b / 2) 3988292384]
  · rw [ha,hb]
    simp only [Nat.xor_self,Nat.zero_ne_one,if_false,if_true]
    rw [Nat.xor_assoc, ← Nat.xor_assoc 3988292384,Nat.xor_comm 3988292384 (b / 2),Nat.xor_assoc (b / 2),Nat.xor_self,Nat.xor_zero]
theorem stepsC_xor (k a b : Nat) : stepsC k (a ^^^ b) = stepsC k a ^^^ stepsC k b := by
  induction k with
  | zero => rfl
  | succ k ih => show stepC (stepsC k (a ^^^ b)) = _;rw [ih,stepC_xor];rfl
theorem stepsC_pow (k h : Nat) : stepsC k (2 ^ k * h) = h := by
  have key : ∀ k h,stepsC k (2 ^ k * h) = h := by
    intro k
    induction k with
    | zero => intro h;show 1 * h = h;omega
    | succ k ih =>
      intro h
      show stepC (stepsC k (2 ^ (k + 1) * h)) = h
      rw [Nat.pow_succ,Nat.mul_assoc,ih]
      unfold stepC
      rw [if_neg (by omega)];omega
  exact key k h
theorem split256 (r : Nat) : r = (r % 256) ^^^ (256 * (r / 256)) := by
  apply Nat.eq_of_testBit_eq
  intro i
  rw [Nat.testBit_xor,show (256 : Nat) = 2 ^ 8 from rfl,Nat.testBit_mod_two_pow,Nat.testBit_two_pow_mul,Nat.testBit_div_two_pow]
  by_cases hi : i < 8
  · simp [hi,show ¬ 8 ≤ i by omega]
  · rw [show i - 8 + 8 = i by omega]
    simp [hi,show 8 ≤ i by omega]
theorem one_next (r : Nat) (c : UInt8) : stepsC 8 (r ^^^ c.toNat) = nextC r c := by
  have e : r ^^^ c.toNat = ((r % 256) ^^^ c.toNat) ^^^ (2 ^ 8 * (r / 256)) := by
    conv => lhs;rw [split256 r]
    rw [Nat.xor_assoc,Nat.xor_comm (256 * (r / 256)), ← Nat.xor_assoc]
  rw [e,stepsC_xor,stepsC_pow];rfl
set_option maxRecDepth 100000 in
set_option maxHeartbeats 4000000 in
theorem one_any (r : Nat) (c : UInt8) (hr : r < 4294967296) (w : World) :
    Calls Tryz.prog 194 #[.int .u32 r, .int .u8 c.toNat] w fun e w' => e = .returned (.int .u32 (nextC r c)) ∧ w = w' := by
  have hc := c.toNat_lt
  have hx : bits BinOp.xor IntKind.u32 (r : Int) (c.toNat : Int) = ((r ^^^ c.toNat : Nat) : Int) := u32_xor_nat r c.toNat hr (by omega)
  have hxl := xor_lt32 (a := r) (b := c.toNat) hr (by omega)
  have hfin := Lib.hid (one_next r c)
  generalize r ^^^ c.toNat = a at *
  go_enter Tryz.func194,Tryz.ntmps194
  go_wp2_with fail
  go_loop [0,5] (fun r i => ∃ m : Nat,m ≤ 8 ∧ i = .int .i64 m ∧ r = .int .u32 (stepsC m a)) (fun _ i => 8 - (intOf i).toNat)
  case atStart => exact ⟨0,by omega,rfl,rfl⟩
  case round =>
    clear hx
    obtain ⟨m,hm,rfl,rfl⟩ := hrel
    by_cases hlm : m < 8
    · have hrl := stepsC_lt m (r := a) hxl
      have hst : stepsC (m + 1) a = stepC (stepsC m a) := rfl
      generalize stepsC m a = r at *
      by_cases hodd : r % 2 = 1
      · have hx := u32_xor_nat (r / 2) 3988292384 (by omega) (by omega)
        have hst2 : stepsC (m + 1) a = (r / 2) ^^^ 3988292384 := by rw [hst];exact if_pos hodd
        have HS := Lib.hid hst2
        have ho1 : (r : Int) % 2 = 1 := by omega
        clear hst hst2 hodd
        have hx : bits BinOp.xor IntKind.u32 ((r : Int) / 2) 3988292384 = ((r / 2 ^^^ 3988292384 : Nat) : Int) := hx
        go_wp2_with fail
        go_round
        case rel => exact ⟨m + 1,by omega,by go_num,by rw [HS.out]⟩
        case measure => simp [intOf];omega
      · have hev : r % 2 = 0 := by omega
        have hst2 : stepsC (m + 1) a = r / 2 := by rw [hst];exact if_neg hodd
        have HS := Lib.hid hst2
        have ho1 : (r : Int) % 2 = 0 := by omega
        clear hst hst2 hodd hev
        go_wp2_with fail
        go_round
        case rel => exact ⟨m + 1,by omega,by go_num,by rw [HS.out];rfl⟩
        case measure => simp [intOf];omega
    · obtain rfl : m = 8 := by omega
      go_wp2_with fail
      go_ret
      exact ⟨by rw [← hfin.out];rfl,rfl⟩
set_option maxRecDepth 100000 in
set_option maxHeartbeats 4000000 in
theorem RMore_any (s : ByteArray) (hs : s.size ≤ 9223372036854775807) (w : World) :
    Calls Tryz.prog 180 #[.int .u32 0, .string s] w fun e w' => e = .returned (.int .u32 (crcOf s.data.toList)) ∧ w = w' := by
  have hmax : bits BinOp.xor IntKind.u32 0 4294967295 = ((4294967295 : Nat) : Int) := by decide +kernel
  have hfin : ∀ r : Nat,r < 4294967296 → bits BinOp.xor IntKind.u32 (r : Int) 4294967295 = ((r ^^^ 4294967295 : Nat) : Int) := fun r hr => u32_xor_nat r 4294967295 hr (by omega)
  have hl : s.data.toList.length = s.size := by rw [Array.length_toList];rfl
  go_enter Tryz.func180,Tryz.ntmps180
  go_wp2_with fail
  go_loop [5,6] (fun r i => ∃ j : Nat,j ≤ s.size ∧ i = .int .i64 j ∧ r = .int .u32 (moreC 4294967295 (s.data.toList.take j))) (fun _ i => s.size - (intOf i).toNat)
  case atStart => exact ⟨0,by omega,rfl,rfl⟩
  case round =>
    obtain ⟨j,hj,rfl,rfl⟩ := hrel
    by_cases hlt : j < s.size
    · have hrl := moreC_lt (s.data.toList.take j) (r := 4294967295) (by omega)
      have hst := moreC_succ s.data.toList 4294967295 j (by omega)
      generalize moreC 4294967295 (s.data.toList.take j) = r at *
      have hlt' : (j : Int) < (s.size : Int) := by omega
      have hsj : s[j] = s.data.toList[j]'(by omega) := rfl
      generalize s.data.toList[j]'(by omega) = x at *
      have HS := Lib.hid hst
      clear hst hfin hmax
      go_wp2_with (first | (go_at_call 194;refine (one_any r x hrl _).mono ?_;rintro e w' ⟨rfl,rfl⟩))
      go_round
      case rel => exact ⟨j + 1,by omega,by go_num,by rw [HS.out]⟩
      case measure => simp [intOf];omega
    · obtain rfl : j = s.size := by omega
      have hrl := moreC_lt s.data.toList (r := 4294967295) (by omega)
      have e := hfin _ hrl
      have ht : s.data.toList.take s.size = s.data.toList := List.take_of_length_le (by omega)
      rw [← ht] at e
      go_wp2_with fail
      go_ret
      exact ⟨rfl,rfl⟩
theorem RSum_any (s : ByteArray) (hs : s.size ≤ 9223372036854775807) (w : World) :
    Calls Tryz.prog 162 #[.string s] w fun e w' => e = .returned (.int .u32 (crcOf s.data.toList)) ∧ w = w' := by
  go_enter Tryz.func162,Tryz.ntmps162
  go_wp2_with (first | (go_at_call 180;refine (RMore_any s hs _).mono ?_;rintro e w' ⟨rfl,rfl⟩))
  go_ret
  exact ⟨rfl,rfl⟩
end Go.Proofs.YtidacaihmjdmkaaGreat
namespace Go.Proofs.YtidacaihmjdmkaaGreat
open Go.RowKit
attribute [local go_sem high] run_mx run_mn
def okByte (c : UInt8) : Bool := decide (97 ≤ c.toNat ∧ c.toNat ≤ 122) || decide (48 ≤ c.toNat ∧ c.toNat ≤ 57) || decide (c.toNat = 45)
def okID (l : List UInt8) : Bool := l.all okByte && decide (1 ≤ l.length ∧ l.length ≤ 16)
def okValue (l : List UInt8) : Bool := decide (l.length ≤ 64)
theorem okByte_iff (c : UInt8) : okByte c = true ↔ (97 ≤ c.toNat ∧ c.toNat ≤ 122) ∨ (48 ≤ c.toNat ∧ c.toNat ≤ 57) ∨ c.toNat = 45 := by unfold okByte;simp [or_assoc]
theorem Value_any (s : ByteArray) (w : World) : Calls Tryz.prog 148 #[.string s] w fun e w' => e = .returned (.bool (okValue s.data.toList)) ∧ w = w' := by
  have hl : s.data.toList.length = s.size := by rw [Array.length_toList];rfl
  have e : okValue s.data.toList = decide ((s.size : Int) ≤ 64) := by unfold okValue;rw [hl];simp;omega
  rw [e]
  go_enter Tryz.func148,Tryz.ntmps148
  go_wp2_with fail
  go_ret
  exact ⟨rfl,rfl⟩
theorem RValue_any (s : ByteArray) (w : World) : Calls Tryz.prog 165 #[.string s] w fun e w' => e = .returned (.bool (okValue s.data.toList)) ∧ w = w' := by
  have hl : s.data.toList.length = s.size := by rw [Array.length_toList];rfl
  have e : okValue s.data.toList = decide ((s.size : Int) ≤ 64) := by unfold okValue;rw [hl];simp;omega
  rw [e]
  go_enter Tryz.func165,Tryz.ntmps165
  go_wp2_with fail
  go_ret
  exact ⟨rfl,rfl⟩
set_option maxRecDepth 100000 in
set_option maxHeartbeats 4000000 in
theorem ID_any (s : ByteArray) (hs : s.size ≤ 9223372036854775807) (w : World) : Calls Tryz.prog 147 #[.string s] w fun e w' => e = .returned (.bool (okID s.data.toList)) ∧ w = w' := by
  have hl : s.data.toList.length = s.size := by rw [Array.length_toList];rfl
  go_enter Tryz.func147,Tryz.ntmps147
  go_wp2_with fail
  go_loop [7] (fun i => ∃ j : Nat,j ≤ s.size ∧ i = .int .i64 j ∧ (s.data.toList.take j).all okByte = true) (fun i => s.size - (intOf i).toNat)
  case atStart => exact ⟨0,by omega,rfl,rfl⟩
  case round =>
    obtain ⟨j,hj,rfl,hall⟩ := hrel
    by_cases hlt : j < s.size
    · have hlt' : (j : Int) < (s.size : Int) := by omega
      have hsj : s[j] = s.data.toList[j]'(by omega) := rfl
      have htk : s.data.toList.take (j + 1) = s.data.toList.take j ++ [s.data.toList[j]'(by omega)] := List.take_succ_eq_append_getElem (by omega)
      have hmem : s.data.toList[j]'(by omega) ∈ s.data.toList := List.getElem_mem _
      have hx := (s.data.toList[j]'(by omega)).toNat_lt
      generalize s.data.toList[j]'(by omega) = x at *
      by_cases hok : okByte x = true
      · have hall2 : (s.data.toList.take (j + 1)).all okByte = true := by rw [htk,List.all_append,hall];simp [hok]
        have HA := Lib.hid hall2
        have hcs := (okByte_iff x).1 hok
        clear hall hall2 htk hok hmem
        rcases hcs with ⟨h1,h2⟩ | ⟨h1,h2⟩ | h1
        all_goals
          go_wp2_with fail
          go_round
          case rel => exact ⟨j + 1,by omega,by go_num,HA.out⟩
          case measure => simp [intOf];omega
      · have hf : okID s.data.toList = false := by
          unfold okID
          have : s.data.toList.all okByte = false := by
            rw [List.all_eq_false];exact ⟨x,hmem,by simpa using hok⟩
          rw [this];rfl
        have hcs : x.toNat < 45 ∨ (45 < x.toNat ∧ x.toNat < 48) ∨ (57 < x.toNat ∧ x.toNat < 97) ∨ 122 < x.toNat := by
          have := mt (okByte_iff x).2 hok
          omega
        have HF := Lib.hid hf
        clear hall htk hok hmem hf
        have hne : ((x.toNat : Int) != 45) = true := by simp;omega
        have hne' : ((x.toNat : Int) == 45) = false := by simp;omega
        rcases hcs with h1 | ⟨h1,h2⟩ | ⟨h1,h2⟩ | h1
        · have i1 : (x.toNat : Int) < 48 := by omega
          have i2 : (x.toNat : Int) < 97 := by omega
          go_wp2_with fail
          go_ret
          exact ⟨by rw [HF.out];rfl,rfl⟩
        · have i1 : (x.toNat : Int) < 48 := by omega
          have i2 : (x.toNat : Int) < 97 := by omega
          go_wp2_with fail
          go_ret
          exact ⟨by rw [HF.out];rfl,rfl⟩
        · have i1 : (57 : Int) < x.toNat := by omega
          have i2 : (x.toNat : Int) < 97 := by omega
          have i3 : (x.toNat : Int) < 48 ∨ (57 : Int) < x.toNat := .inr i1
          have i4 : decide ((57 : Int) < x.toNat) = true := decide_eq_true i1
          go_wp2_with fail
          all_goals first
            | (go_ret;exact ⟨by rw [HF.out];rfl,rfl⟩)
            | (exfalso;simp_all;omega)
        · have i1 : (122 : Int) < x.toNat := by omega
          have i4 : (57 : Int) < x.toNat := by omega
          go_wp2_with fail
          all_goals first
            | (go_ret;exact ⟨by rw [HF.out];rfl,rfl⟩)
            | (exfalso;simp_all;omega)
    · obtain rfl : j = s.size := by omega
      have hall2 : s.data.toList.all okByte = true := by rwa [List.take_of_length_le (by omega)] at hall
      have e : okID s.data.toList = decide (1 ≤ s.size ∧ s.size ≤ 16) := by unfold okID;rw [hall2,hl];rfl
      have HE := Lib.hid e
      clear e hall hall2
      by_cases h0 : s.size = 0
      · obtain rfl : s = ⟨#[]⟩ := ByteArray.ext (Array.eq_empty_of_size_eq_zero h0)
        go_wp2_with fail
        go_ret
        exact ⟨by rw [HE.out];rfl,rfl⟩
      · have h0' : 1 ≤ (s.size : Int) := by omega
        have hnil : ¬ s.toList = [] := by rw [ByteArray.toList_eq];intro e;rw [e] at hl;simp at hl;omega
        have hemp : s.toList.isEmpty = false := by cases h : s.toList with | nil => exact absurd h hnil | cons a l => rfl
        by_cases h16 : (s.size : Int) ≤ 16
        · have hd : decide (1 ≤ s.size ∧ s.size ≤ 16) = true := decide_eq_true (by omega)
          go_wp2_with fail
          go_ret
          exact ⟨by rw [HE.out,hd];rfl,rfl⟩
        · have hd : decide (1 ≤ s.size ∧ s.size ≤ 16) = false := decide_eq_false (by omega)
          go_wp2_with fail
          go_ret
          exact ⟨by rw [HE.out,hd];rfl,rfl⟩
set_option maxRecDepth 100000 in
set_option maxHeartbeats 4000000 in
theorem RID_any (s : ByteArray) (hs : s.size ≤ 9223372036854775807) (w : World) : Calls Tryz.prog 164 #[.string s] w fun e w' => e = .returned (.bool (okID s.data.toList)) ∧ w = w' := by
  have hl : s.data.toList.length = s.size := by rw [Array.length_toList];rfl
  go_enter Tryz.func164,Tryz.ntmps164
  go_wp2_with fail
  go_loop [3] (fun i => ∃ j : Nat,j ≤ s.size ∧ i = .int .i64 j ∧ (s.data.toList.take j).all okByte = true) (fun i => s.size - (intOf i).toNat)
  case atStart => exact ⟨0,by omega,rfl,rfl⟩
  case round =>
    obtain ⟨j,hj,rfl,hall⟩ := hrel
    by_cases hlt : j < s.size
    · have hlt' : (j : Int) < (s.size : Int) := by omega
      have hsj : s[j] = s.data.toList[j]'(by omega) := rfl
      have htk : s.data.toList.take (j + 1) = s.data.toList.take j ++ [s.data.toList[j]'(by omega)] := List.take_succ_eq_append_getElem (by omega)
      have hmem : s.data.toList[j]'(by omega) ∈ s.data.toList := List.getElem_mem _
      have hx := (s.data.toList[j]'(by omega)).toNat_lt
      generalize s.data.toList[j]'(by omega) = x at *
      by_cases hok : okByte x = true
      · have hall2 : (s.data.toList.take (j + 1)).all okByte = true := by rw [htk,List.all_append,hall];simp [hok]
        have HA := Lib.hid hall2
        have hcs := (okByte_iff x).1 hok
        clear hall hall2 htk hok hmem
        rcases hcs with ⟨h1,h2⟩ | ⟨h1,h2⟩ | h1
        all_goals
          go_wp2_with fail
          go_round
          case rel => exact ⟨j + 1,by omega,by go_num,HA.out⟩
          case measure => simp [intOf];omega
      · have hf : okID s.data.toList = false := by
          unfold okID
          have : s.data.toList.all okByte = false := by
            rw [List.all_eq_false];exact ⟨x,hmem,by simpa using hok⟩
          rw [this];rfl
        have hcs : x.toNat < 45 ∨ (45 < x.toNat ∧ x.toNat < 48) ∨ (57 < x.toNat ∧ x.toNat < 97) ∨ 122 < x.toNat := by
          have := mt (okByte_iff x).2 hok
          omega
        have HF := Lib.hid hf
        clear hall htk hok hmem hf
        have hne : ((x.toNat : Int) != 45) = true := by simp;omega
        have hne' : ((x.toNat : Int) == 45) = false := by simp;omega
        rcases hcs with h1 | ⟨h1,h2⟩ | ⟨h1,h2⟩ | h1
        · have i1 : (x.toNat : Int) < 48 := by omega
          have i2 : (x.toNat : Int) < 97 := by omega
          go_wp2_with fail
          go_ret
          exact ⟨by rw [HF.out];rfl,rfl⟩
        · have i1 : (x.toNat : Int) < 48 := by omega
          have i2 : (x.toNat : Int) < 97 := by omega
          go_wp2_with fail
          go_ret
          exact ⟨by rw [HF.out];rfl,rfl⟩
        · have i1 : (57 : Int) < x.toNat := by omega
          have i2 : (x.toNat : Int) < 97 := by omega
          have i3 : (x.toNat : Int) < 48 ∨ (57 : Int) < x.toNat := .inr i1
          have i4 : decide ((57 : Int) < x.toNat) = true := decide_eq_true i1
          go_wp2_with fail
          all_goals first
            | (go_ret;exact ⟨by rw [HF.out];rfl,rfl⟩)
            | (exfalso;simp_all;omega)
        · have i1 : (122 : Int) < x.toNat := by omega
          have i4 : (57 : Int) < x.toNat := by omega
          go_wp2_with fail
          all_goals first
            | (go_ret;exact ⟨by rw [HF.out];rfl,rfl⟩)
            | (exfalso;simp_all;omega)
    · obtain rfl : j = s.size := by omega
      have hall2 : s.data.toList.all okByte = true := by rwa [List.take_of_length_le (by omega)] at hall
      have e : okID s.data.toList = decide (1 ≤ s.size ∧ s.size ≤ 16) := by unfold okID;rw [hall2,hl];rfl
      have HE := Lib.hid e
      clear e hall hall2
      by_cases h0 : ¬ 1 ≤ (s.size : Int)
      · have h0' : ¬ 1 ≤ s.size := by omega
        go_wp2_with fail
        go_ret
        exact ⟨by rw [HE.out];simp;omega,rfl⟩
      · have h0' : 1 ≤ (s.size : Int) := by omega
        by_cases h16 : (s.size : Int) ≤ 16
        · have hd : decide (1 ≤ s.size ∧ s.size ≤ 16) = true := decide_eq_true (by omega)
          go_wp2_with fail
          go_ret
          exact ⟨by rw [HE.out,hd];rfl,rfl⟩
        · have hd : decide (1 ≤ s.size ∧ s.size ≤ 16) = false := decide_eq_false (by omega)
          go_wp2_with fail
          go_ret
          exact ⟨by rw [HE.out,hd];rfl,rfl⟩
end Go.Proofs.YtidacaihmjdmkaaGreat
