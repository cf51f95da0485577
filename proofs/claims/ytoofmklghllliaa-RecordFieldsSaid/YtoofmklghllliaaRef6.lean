/- lodgerref06: Right, Encode, Decode, Next. -/
import Derived.Test.YtoofmklghllliaaNext
namespace Go.Proofs.Ytoofmklghllliaa
set_option linter.unusedSimpArgs false
set_option linter.unusedVariables false
open Go.RowKit
attribute [local go_sem high] run_mx run_mn

theorem RPutN8 (n : Int) (hn : 0 ≤ n ∧ n < 18446744073709551616) (u : World) : Calls Try.prog 25 #[.int .u64 n, .int .i64 8] u fun e v => e = .returned (.string (putB n 8)) ∧ Newer u v := RPut_any n 8 (by omega) hn u
theorem RPutN4 (n : Int) (hn : 0 ≤ n ∧ n < 18446744073709551616) (u : World) : Calls Try.prog 25 #[.int .u64 n, .int .i64 4] u fun e v => e = .returned (.string (putB n 4)) ∧ Newer u v := RPut_any n 4 (by omega) hn u
theorem RSumN (s : ByteArray) (hs : s.size ≤ 1000) (u : World) : Calls Try.prog 26 #[.string s] u fun e v => e = .returned (.int .u32 (crcOf s.data.toList)) ∧ Newer u v :=
  (RSum_any s (by omega) u).mono fun _ _ ⟨he, h⟩ => ⟨he, h ▸ Newer.refl u⟩
theorem zeroB_succ (j : Nat) : zeroB j ++ ByteArray.mk #[0] = zeroB (j + 1) := by
  refine ByteArray.ext (Array.ext' ?_)
  rw [ByteArray.data_append, Array.toList_append]
  show (List.replicate j (0 : UInt8)) ++ [0] = List.replicate (j + 1) 0
  rw [List.replicate_succ']
theorem zeroB_zero : zeroB 0 = ByteArray.empty := rfl
def strOf : Value → ByteArray
  | .string s => s
  | _ => ByteArray.empty
set_option maxRecDepth 100000 in
set_option maxHeartbeats 4000000 in
theorem RRight_any (r : Rec) (hr : r.Fits) (w : World) : Calls Try.prog 18 #[r.value] w fun e w' => e = .returned (.bool r.right) ∧ Below w.heap.size w w' := by
  unfold Rec.value
  have hB : Below w.heap.size w (w.alloc (.cells #[.int .u64 r.lsn, .int .u32 r.epoch, .int .i64 r.kind, .int .u64 r.ver, .int .u64 r.dl, .string r.id, .string r.val] 33)) := (Below.refl _ _).alloc (Nat.le_refl _) _
  have hid := hr.id
  go_enter Try.func18, Try.ntmps18
  go_wp2_with (first
    | (go_at_call 32; refine (RID_any _ hid _).mono ?_; rintro e w' ⟨rfl, rfl⟩)
    | (go_at_call 33; refine (RValue_any _ _).mono ?_; rintro e w' ⟨rfl, rfl⟩))
  all_goals
    go_ret
    refine ⟨?_, ?_⟩
    · simp_all [Rec.right]
    · simp_all
set_option maxRecDepth 100000 in
set_option maxHeartbeats 4000000 in
theorem REncode_no (r : Rec) (hr : r.Fits) (hn : r.right = false) (w : World) : Calls Try.prog 11 #[r.value] w fun e w' => e = .returned (.tuple #[.string ⟨#[]⟩, .int .i64 5]) ∧ Below w.heap.size w w' := by
  have hR := RRight_any r hr
  rw [hn] at hR
  unfold Rec.value at hR ⊢
  go_enter Try.func11, Try.ntmps11
  go_wp2_with (first | (go_at_call 18; with_reducible refine (hR _).mono ?_; rintro e w' ⟨rfl, hB⟩))
  go_ret2
  exact ⟨rfl, ((Below.refl _ _).alloc (Nat.le_refl _) _).trans (hB.mono (by simp))⟩
set_option maxRecDepth 100000 in
set_option maxHeartbeats 4000000 in
theorem REncode_yes (r : Rec) (hr : r.Fits) (hn : r.right = true) (w : World) : Calls Try.prog 11 #[r.value] w fun e w' => e = .returned (.tuple #[.string r.sector, .int .i64 0]) ∧ Below w.heap.size w w' := by
  have hR := RRight_any r hr
  rw [hn] at hR
  have hsz := Rec.sizes hn
  unfold Rec.value at hR ⊢
  go_enter Try.func11, Try.ntmps11
  go_upto_region 3 with (first | (go_at_call 18; with_reducible refine (hR _).mono ?_; rintro e w' ⟨rfl, hB⟩))
  have hbl := (Blk.new w 33 #[.int .u64 r.lsn, .int .u32 r.epoch, .int .i64 r.kind, .int .u64 r.ver, .int .u64 r.dl, .string r.id, .string r.val]).below hB (by simp)
  have hW : Below w.heap.size w w' := ((Below.refl _ _).alloc (Nat.le_refl _) _).trans (hB.mono (by simp))
  have hlt : w.heap.size < w'.heap.size := Nat.lt_of_lt_of_le (by simp) hB.size
  clear hB hR
  have hl1 := hr.lsn
  have hl2 : 0 ≤ r.epoch ∧ r.epoch < 18446744073709551616 := by have := hr.epoch; omega
  have hl3 := hr.ver
  have hl4 := hr.dl
  have hk1 : 0 ≤ r.kind ∧ r.kind ≤ 255 := by omega
  have hk2 : 0 ≤ (r.id.size : Int) ∧ (r.id.size : Int) ≤ 255 := by omega
  have hk3 : 0 ≤ (r.val.size : Int) ∧ (r.val.size : Int) ≤ 255 := by omega
  have hths : r.three.size = 3 := rfl
  have g1 := run_add (putB r.lsn 8) (putB r.epoch 4) (by rw [putB_size]; omega) (by rw [putB_size]; omega)
  have g2 := run_add (putB r.lsn 8 ++ putB r.epoch 4) r.three (by simp only [ByteArray.size_append, putB_size]; omega) (by omega)
  have g3 := run_add (putB r.lsn 8 ++ putB r.epoch 4 ++ r.three) (putB r.ver 8) (by simp only [ByteArray.size_append, putB_size, hths]; omega) (by rw [putB_size]; omega)
  have g4 := run_add (putB r.lsn 8 ++ putB r.epoch 4 ++ r.three ++ putB r.ver 8) (putB r.dl 8) (by simp only [ByteArray.size_append, putB_size, hths]; omega) (by rw [putB_size]; omega)
  have g5 := run_add (putB r.lsn 8 ++ putB r.epoch 4 ++ r.three ++ putB r.ver 8 ++ putB r.dl 8) r.id (by simp only [ByteArray.size_append, putB_size, hths]; omega) (by omega)
  have g6 := run_add (putB r.lsn 8 ++ putB r.epoch 4 ++ r.three ++ putB r.ver 8 ++ putB r.dl 8 ++ r.id) r.val (by simp only [ByteArray.size_append, putB_size, hths]; omega) (by omega)
  have hhs := r.head_size
  have hwe : IntKind.u64.wrap r.epoch = r.epoch := by rw [IntKind.wrap_u64]; omega
  have hwk : IntKind.u8.wrap r.kind = r.kind := by rw [IntKind.wrap_u8]; omega
  have hwi : IntKind.u8.wrap (r.id.size : Int) = r.id.size := by rw [IntKind.wrap_u8]; omega
  have hwv : IntKind.u8.wrap (r.val.size : Int) = r.val.size := by rw [IntKind.wrap_u8]; omega
  have hcell := fun w1 (h : Newer w'.drew w1) => keep7 (w' := w'.drew) hbl (h.mono hlt)
  refine wp_region_ord Newer.grow [(0, true), (1, true), (2, true), (3, true), (4, true), (5, true), (6, true), (7, true), (8, true), (9, true), (10, true), (11, true), (12, true), (13, true), (14, true), (15, true), (16, true), (17, true), (18, true), (22, true), (23, true), (24, true), (26, true), (27, true), (28, true), (30, true), (31, true), (33, true), (34, true), (19, false), (20, true), (21, true), (25, true), (29, true), (32, true), (35, true), (36, true)] [] (by kernel_rfl) (by kernel_rfl) rfl (by kernel_rfl) (by intro _ _ d _ _ h; cases d <;> exact h) ?_
  have hC : ∀ w1, Newer w'.drew w1 → w'.heap.size ≤ w1.heap.size := fun w1 h => h.size
  iterate 29
    (apply wpOrd_take
     · exact rfl
     · intro w1 h1
       (obtain ⟨c0, c1, c2, c3, c4, c5, c6⟩ := hcell w1 h1)
       go_simp
       first
         | with_reducible exact ⟨rfl, Newer.grow.refl _⟩
         | with_reducible exact RPutN8 _ hl1 _ | with_reducible exact RPutN4 _ hl2 _ | with_reducible exact RPutN8 _ hl3 _ | with_reducible exact RPutN8 _ hl4 _
     simp only [Act.put, List.setIfInBounds_toArray, List.set_cons_zero, List.set_cons_succ])
  refine wpOrd_do rfl ?_
  intro w2 h2 K hK
  go_simp
  have h3 : Newer w2 (w2.alloc (.cells #[.int .u8 r.kind, .int .u8 r.id.size, .int .u8 r.val.size] 5)) := (Below.refl _ _).alloc (Nat.le_refl _) _
  refine hK _ _ h3 ?_
  clear hK K
  have hcv := conv_threeN w2 r.kind r.id.size r.val.size hk1 hk2 hk3
  rw [show (⟨#[UInt8.ofNat r.kind.toNat, UInt8.ofNat (r.id.size : Int).toNat, UInt8.ofNat (r.val.size : Int).toNat]⟩ : ByteArray) = r.three from rfl] at hcv
  have hx := fun w1 (h : Newer _ w1) => Newer.grow.trans _ _ _ h2 (Newer.grow.trans _ _ _ h3 h)
  generalize w2.alloc (.cells #[.int .u8 r.kind, .int .u8 r.id.size, .int .u8 r.val.size] 5) = w3 at *
  iterate 7
    (apply wpOrd_take
     · exact rfl
     · intro w1 h1
       (have cv := hcv w1 h1)
       go_simp
       first
         | with_reducible exact ⟨rfl, Newer.grow.refl _⟩
     simp only [Act.put, List.setIfInBounds_toArray, List.set_cons_zero, List.set_cons_succ])
  refine wpOrd_done fun w4 h4 => ?_
  have h5 : Newer w'.drew w4 := hx w4 h4
  have hcell2 := fun w1 (h : Newer w4 w1) => keep2 (w' := w'.drew) hbl ((Newer.grow.trans _ _ _ h5 h).mono hlt)
  clear g1 g2 g3 g4 g5 g6 hcell hcv hwi hwv hwk
  rw [show putB r.lsn 8 ++ putB r.epoch 4 ++ r.three ++ putB r.ver 8 ++ putB r.dl 8 ++ r.id ++ r.val = r.head from rfl]
  have hB4 : Newer w w4 := Newer.trans hW h5.undrew
  have hrk : 112 - r.head.size ≤ 112 := by omega
  have hrv : (112 : Int) - (r.head.size : Int) = ((112 - r.head.size : Nat) : Int) := by omega
  have hra := run_add r.head (zeroB (112 - r.head.size)) (by omega) (by rw [zeroB_size]; omega)
  rw [show r.head ++ zeroB (112 - r.head.size) = r.body from rfl] at hra
  have hh111 : (r.head.size : Int) ≤ 111 := by omega
  have hwr : wrap64 (112 - (r.head.size : Int)) = ((112 - r.head.size : Nat) : Int) := by unfold wrap64; omega
  have hcl := crcOf_lt r.body.data.toList
  have hbs := Rec.body_size hn
  have hwc : IntKind.u64.wrap (crcOf r.body.data.toList : Int) = (crcOf r.body.data.toList : Int) := by rw [IntKind.wrap_u64]; omega
  have hlc : 0 ≤ (crcOf r.body.data.toList : Int) ∧ (crcOf r.body.data.toList : Int) < 18446744073709551616 := by omega
  have s1 := run_add r.body (putB (crcOf r.body.data.toList) 4) (by omega) (by rw [putB_size]; omega)
  have s2 := run_add (r.body ++ putB (crcOf r.body.data.toList) 4) (putB r.lsn 8) (by simp only [ByteArray.size_append, putB_size]; omega) (by rw [putB_size]; omega)
  have s3 := run_add (r.body ++ putB (crcOf r.body.data.toList) 4 ++ putB r.lsn 8) (putB r.epoch 4) (by simp only [ByteArray.size_append, putB_size]; omega) (by rw [putB_size]; omega)
  rw [show r.body ++ putB (crcOf r.body.data.toList) 4 ++ putB r.lsn 8 ++ putB r.epoch 4 = r.sector from rfl] at s3
  have hSum := fun u => RSumN r.body (by omega) u
  clear hx h2 h3 h5 hhs
  have hz : ∀ j : Nat, j < 112 - r.head.size → ∀ u : World, (Op.stringOp .add (r.head ++ zeroB j) (ByteArray.mk #[0])).run Try.prog u = .ok (.string (r.head ++ zeroB (j + 1))) u := fun j hj u => by
    rw [run_add _ _ (by rw [ByteArray.size_append, zeroB_size]; omega) (by show 1 ≤ 1000; omega), ByteArray.append_assoc]; rw [zeroB_succ]
  go_wp2_with fail
  go_loopw [4] (fun s wr => ∃ j : Nat, j ≤ 112 - r.head.size ∧ s = .string (r.head ++ zeroB j) ∧ wr = w4) (fun s _ => 112 - (strOf s).size)
  case atStart => exact ⟨0, by omega, by rw [zeroB_zero, ByteArray.append_empty], rfl⟩
  case round =>
    obtain ⟨j, hj, rfl, rfl⟩ := hrel
    have hsz1 : (r.head ++ zeroB j).size = r.head.size + j := by rw [ByteArray.size_append, zeroB_size]
    have hsz2 : (r.head ++ zeroB (j + 1)).size = r.head.size + (j + 1) := by rw [ByteArray.size_append, zeroB_size]
    by_cases hlt : j < 112 - r.head.size
    · have hl : ((r.head ++ zeroB j).size : Int) < 112 := by omega
      have hzj := hz j hlt
      go_wp2_with fail
      go_roundw
      case rel => exact ⟨j + 1, by omega, rfl, by first | rfl | trivial⟩
      case measure => simp [strOf, hsz1, hsz2]; omega
    · obtain rfl : j = 112 - r.head.size := by omega
      generalize hbd : r.head ++ zeroB (112 - r.head.size) = bd at *
      obtain rfl : bd = r.body := hbd.symm
      have hl : ¬ (r.body.size : Int) < 112 := by omega
      clear hz hbd hsz1 hlt hj
      go_wp2_with fail
      have hcell3 := fun w1 (h : Newer wr.drew w1) => hcell2 w1 h.undrew
      refine wp_region_ord Newer.grow [(0, true), (1, true), (2, true), (3, true), (4, true), (5, true), (6, true), (7, true), (8, true), (9, true), (10, true), (11, true), (12, true), (13, true), (14, true), (15, true), (16, true)] [] (by kernel_rfl) (by kernel_rfl) rfl (by kernel_rfl) (by intro _ _ d _ _ h; cases d <;> exact h) ?_
      iterate 17
        (apply wpOrd_take
         · exact rfl
         · intro w1 h1
           (obtain ⟨c0, c1⟩ := hcell3 w1 h1)
           go_simp
           first
             | with_reducible exact ⟨rfl, Newer.grow.refl _⟩
             | with_reducible exact RPutN8 _ hl1 _ | with_reducible exact RPutN4 _ hl2 _ | with_reducible exact RPutN4 _ hlc _ | with_reducible exact hSum _
         simp only [Act.put, List.setIfInBounds_toArray, List.set_cons_zero, List.set_cons_succ])
      refine wpOrd_done fun w6 h6 => ?_
      go_wp2_with fail
      go_ret2
      exact ⟨rfl, hB4.trans h6.undrew⟩

end Go.Proofs.Ytoofmklghllliaa
