/- The walk of the law RecordFields. -/
import Derived.Test.YtoofmklghllliaaWalkRecordBack
import Derived.Test.YtoofmklghllliaaTornPure
namespace Go.Proofs.Ytoofmklghllliaa
set_option linter.unusedSimpArgs false
set_option linter.unusedVariables false
open Go.RowKit
attribute [local go_sem high] run_mx run_mn

theorem getN {s : ByteArray} {n : Int} (hs : s.size ≤ 8) (h : (leN s.data.toList : Int) = n) (u : World) : Calls Try.prog 21 #[.string s] u fun e w' => e = .returned (.int .u64 n) ∧ Newer u w' := h ▸ RGetN s hs u
theorem sec_slice {r : Rec} (hr : r.right = true) (p q : Nat) (hq : q ≤ p + 8) : (r.sector.extract p q).size ≤ 8 := by rw [ByteArray.size_extract]; omega
theorem sec_lsn2 {r : Rec} (hr : r.right = true) (hf : r.Fits) : (leN (r.sector.extract 116 124).data.toList : Int) = r.lsn := by
  rw [extract_list, sec_drop116 hr, take_front _ _ _ (leB_len _ 8)]
  exact leN_leB _ 8 hf.lsn8.1 hf.lsn8.2
theorem sec_epoch2 {r : Rec} (hr : r.right = true) (hf : r.Fits) : (leN (r.sector.extract 124 128).data.toList : Int) = r.epoch := by
  rw [extract_list, show 124 = 116 + 8 from rfl, ← List.drop_drop, sec_drop116 hr, show 8 = 8 + 0 from rfl, drop_front _ _ _ _ (leB_len _ 8), List.drop_zero, List.take_of_length_le (by rw [leB_len]; omega)]
  exact leN_leB _ 4 hf.epoch4.1 hf.epoch4.2
theorem sec_texts {r : Rec} : r.sector.extract 31 (31 + r.id.size + r.val.size) = r.id ++ r.val := by
  refine list_inj ?_
  rw [extract_list, sec_drop31, app_list, ← List.append_assoc, take_front _ _ _ (by rw [List.length_append, size_len, size_len]; omega)]
theorem sec_zeros {r : Rec} (hr : r.right = true) {i : Nat} (h1 : 31 + r.id.size + r.val.size ≤ i) (h2 : i < 112) : r.sector.data.toList[i]? = some 0 := by
  have hb := body_len hr
  have : r.sector.data.toList[i]? = r.body.data.toList[i]? := by rw [← sec_take112 hr, List.getElem?_take, if_pos h2]
  rw [this]
  unfold Rec.body
  rw [app_list, zeroB_list, List.getElem?_append_right (by rw [size_len, Rec.head_size]; exact h1), List.getElem?_replicate]
  rw [if_pos (by rw [size_len, Rec.head_size]; omega)]
theorem byte_zero {s : ByteArray} {i : Nat} (h : i < s.size) (hz : s.data.toList[i]? = some 0) : s[i].toNat = 0 := by
  have hl : i < s.data.toList.length := by rw [size_len]; exact h
  rw [List.getElem?_eq_getElem hl] at hz
  injection hz with hz
  have : s[i] = s.data.toList[i] := by rw [Array.getElem_toList]; rfl
  rw [this, hz]; rfl
set_option maxRecDepth 100000 in
set_option maxHeartbeats 4000000 in
theorem fields_n (W : World) (r q : Rec) (hc : r.cut = q) (hcf : q.Fits) (hq : q.right = false) :
    Calls Try.prog 8 #[r.value] W fun e w' => e = .returned (.bool true) ∧ Below W.heap.size W w' := by
  have C1 := fun u => Cut_any r u
  rw [hc] at C1
  have E1 := fun u => Encode_no q hcf hq u
  have FX := fun u => fixed_any u
  clear hc hcf hq
  unfold Rec.value at *
  have A0 := Blk.new W 25 #[.int .u64 r.lsn, .int .u32 r.epoch, .int .i64 r.kind, .int .u64 r.ver, .int .u64 r.dl, .string r.id, .string r.val]
  have hW0 := (Newer.refl W).alloc (.cells #[.int .u64 r.lsn, .int .u32 r.epoch, .int .i64 r.kind, .int .u64 r.ver, .int .u64 r.dl, .string r.id, .string r.val] 25)
  go_enter Try.func8, Try.ntmps8
  go_wp2_with (first
    | (go_at_call 9; (with_reducible refine (C1 _).mono ?_); rintro e v1 ⟨rfl, hB⟩; have A1 := A0.below hB A0.lt; have hW1 := hW0.trans hB; clear A0 hW0 hB C1; obtain ⟨cA0, cA1, cA2, cA3, cA4, cA5, cA6⟩ := cells7 A1; have lA := A1.lt; have fA := fun k => A1.frozen k)
    | (go_at_call 10; (with_reducible refine (E1 _).mono ?_); rintro e v2 ⟨rfl, hB⟩; obtain ⟨hS, hS2⟩ := set7N A1 hW1 (by simp) (.int .u64 q.lsn) (.int .u32 q.epoch) (.int .i64 q.kind) (.int .u64 q.ver) (.int .u64 q.dl) (.string q.id) (.string q.val); have A2 := hS.below hB hS.lt; have hW2 := hS2.trans hB; clear hS hS2; clear A1 hW1 hB E1; clear cA0 cA1 cA2 cA3 cA4 cA5 cA6 lA fA)
    | (go_at_call 19; (with_reducible refine (FX _).mono ?_); rintro e v3 ⟨rfl, hB⟩; have A3 := A2.below hB A2.lt; have hW3 := hW2.trans hB; clear A2 hW2 hB FX)
    )
  go_ret
  exact ⟨rfl, hW3⟩
set_option maxRecDepth 100000 in
set_option maxHeartbeats 4000000 in
theorem fields_y (W : World) (r q : Rec) (hc : r.cut = q) (hcf : q.Fits) (hq : q.right = true) :
    Calls Try.prog 8 #[r.value] W fun e w' => e = .returned (.bool true) ∧ Below W.heap.size W w' := by
  have C1 := fun u => Cut_any r u
  rw [hc] at C1
  have E1 := fun u => encY q hcf hq u
  have FX := fun u => fixedN u
  obtain ⟨hz1, hz2, _, _⟩ := Rec.sizes hq
  have z0 := Rec.sector_size hq
  have z1 : (q.sector.size : Int) = 128 := by omega
  have G1 := fun u => getN (s := q.sector.extract 0 8) (n := q.lsn) (sec_slice hq 0 8 (by omega)) (by rw [show q.sector.extract 0 8 = q.sector.extract 0 (0 + 8) from rfl, fld_extract]; exact sec_lsn q hcf) u
  have G2 := fun u => getN (sec_slice hq 116 124 (by omega)) (sec_lsn2 hq hcf) u
  have G3 := fun u => getN (sec_slice hq 124 128 (by omega)) (sec_epoch2 hq hcf) u
  have G4 := fun u => getN (s := q.sector.extract 8 12) (n := q.epoch) (sec_slice hq 8 12 (by omega)) (by rw [show q.sector.extract 8 12 = q.sector.extract 8 (8 + 4) from rfl, fld_extract]; exact sec_epoch q hcf) u
  have G5 := fun u => getN (s := q.sector.extract 15 23) (n := q.ver) (sec_slice hq 15 23 (by omega)) (by rw [show q.sector.extract 15 23 = q.sector.extract 15 (15 + 8) from rfl, fld_extract]; exact sec_ver q hcf) u
  have G6 := fun u => getN (s := q.sector.extract 23 31) (n := q.dl) (sec_slice hq 23 31 (by omega)) (by rw [show q.sector.extract 23 31 = q.sector.extract 23 (23 + 8) from rfl, fld_extract]; exact sec_dl q hcf) u
  have hidlt : q.id.size < 1000000 := by omega
  have hvallt : q.val.size < 1000000 := by omega
  have l12 : 12 < q.sector.size := by omega
  have l13 : 13 < q.sector.size := by omega
  have l14 : 14 < q.sector.size := by omega
  obtain ⟨m, hm⟩ : ∃ m : Nat, 31 + q.id.size + q.val.size = m := ⟨_, rfl⟩
  have hmI : (31 : Int) + (q.id.size : Int) + (q.val.size : Int) = (m : Int) := by omega
  have htx : q.sector.extract 31 ((31 : Int) + (q.id.size : Int) + (q.val.size : Int)).toNat = q.id ++ q.val := by rw [hmI, Int.toNat_natCast, ← hm]; exact sec_texts
  have hq1 : (31 : Int) ≤ (31 : Int) + (q.id.size : Int) + (q.val.size : Int) := by omega
  have hq2 : (31 : Int) + (q.id.size : Int) + (q.val.size : Int) ≤ 128 := by omega
  have hq3 : (0 : Int) ≤ (31 : Int) + (q.id.size : Int) + (q.val.size : Int) := by omega
  have HMI := Lib.hid hmI
  have hadd := run_add q.id q.val (by omega) (by omega)
  have hm31 : (31 : Int) ≤ (m : Int) := by omega
  have hm112 : m ≤ 112 := by omega
  have hmu : (m : Int) ≤ 128 := by omega
  have hwe : IntKind.u64.wrap q.epoch = q.epoch := by rw [IntKind.wrap_u64]; have := hcf.epoch; omega
  have hzer : ∀ i (h : i < q.sector.size), m ≤ i → i < 112 → (q.sector[i]).toNat = 0 := fun i h h1 h2 => byte_zero h (sec_zeros hq (by omega) h2)
  have y12 : wrap64 ((q.sector[12].toNat : Nat) : Int) = q.kind := by
    rw [fld_byte _ _ l12, sec_kind q hq]
    exact IntWalk.wrap64_in _ hcf.kind
  have y13 : wrap64 ((q.sector[13].toNat : Nat) : Int) = (q.id.size : Int) := by
    rw [fld_byte _ _ l13, sec_idn q hq]
    exact wrap_small rfl hidlt
  have y14 : wrap64 ((q.sector[14].toNat : Nat) : Int) = (q.val.size : Int) := by
    rw [fld_byte _ _ l14, sec_valn q hq]
    exact wrap_small rfl hvallt
  have HY12 := Lib.hid y12
  have HY13 := Lib.hid y13
  have HY14 := Lib.hid y14
  have HZ := Lib.hid hzer
  clear y12 y13 y14 hc hcf hq hzer hm hmI hz1 hz2
  generalize q.sector = sec at *
  unfold Rec.value at *
  have A0 := Blk.new W 25 #[.int .u64 r.lsn, .int .u32 r.epoch, .int .i64 r.kind, .int .u64 r.ver, .int .u64 r.dl, .string r.id, .string r.val]
  have hW0 := (Newer.refl W).alloc (.cells #[.int .u64 r.lsn, .int .u32 r.epoch, .int .i64 r.kind, .int .u64 r.ver, .int .u64 r.dl, .string r.id, .string r.val] 25)
  go_enter Try.func8, Try.ntmps8
  go_wp2_with (first
    | (go_at_call 9; (with_reducible refine (C1 _).mono ?_); rintro e v1 ⟨rfl, hB⟩; have A1 := A0.below hB A0.lt; have hW1 := hW0.trans hB; clear A0 hW0 hB C1; obtain ⟨cA0, cA1, cA2, cA3, cA4, cA5, cA6⟩ := cells7 A1; have lA := A1.lt; have fA := fun k => A1.frozen k)
    | (go_at_call 10; (with_reducible refine (E1 _).mono ?_); rintro e v2 ⟨rfl, hB⟩; obtain ⟨hS, hS2⟩ := set7N A1 hW1 (by simp) (.int .u64 q.lsn) (.int .u32 q.epoch) (.int .i64 q.kind) (.int .u64 q.ver) (.int .u64 q.dl) (.string q.id) (.string q.val); have A2 := hS.below hB hS.lt; have hW2 := hS2.trans hB; clear hS hS2; clear A1 hW1 hB E1; clear cA0 cA1 cA2 cA3 cA4 cA5 cA6 lA fA; obtain ⟨cA0, cA1, cA2, cA3, cA4, cA5, cA6⟩ := cells7 A2; have lA := A2.lt; have fA := fun k => A2.frozen k)
    )
  go_loopw [6] (fun i wr => ∃ j : Nat, m ≤ j ∧ j ≤ 112 ∧ i = .int .i64 (j : Int) ∧ wr = v2) (fun i _ => 112 - (intOf i).toNat)
  case atStart => exact ⟨m, by omega, by omega, by rw [HMI.out], rfl⟩
  case round =>
    obtain ⟨j, hj, hj2, rfl, rfl⟩ := hrel

    by_cases hlt : j < 112
    · have hlt' : (j : Int) < 112 := by omega
      have hj0 : (0 : Int) ≤ (j : Int) := by omega
      have hj3 : (j : Int) < 128 := by omega
      have hjs : j < sec.size := by omega
      have hzj := HZ.out j hjs hj hlt
      go_wp2_with fail
      go_roundw
      case rel => exact ⟨j + 1, by omega, by omega, by go_num, by first | rfl | trivial⟩
      case measure => simp [intOf]; omega
    · obtain rfl : j = 112 := by omega
      have hlt' : ¬ ((112 : Nat) : Int) < 112 := by omega
      have y12 := HY12.out
      have y13 := HY13.out
      have y14 := HY14.out
      clear hlt hj hj2
      have wrp : ∀ n, IntKind.i64.wrap n = wrap64 n := fun n => IntWalk.i64_left n
      go_wp2_with fail
      have kA := fun w1 (h : Newer wr.drew w1) => cells7 (A2.below h.undrew A2.lt)
      refine wp_region_ord Newer.grow [(0, true), (1, true), (2, true), (3, true), (4, true), (5, true), (6, true), (7, true), (8, true), (9, true), (10, true), (11, true), (12, true), (13, true), (14, true), (15, true), (16, true), (17, true), (18, true), (19, true), (20, true), (21, true), (22, true), (23, true), (24, true), (25, true), (26, true), (27, true), (28, true), (29, true), (30, true), (31, true), (32, true), (33, true), (34, true), (35, true), (36, true), (37, true), (38, true), (39, true), (40, true), (41, true), (42, true), (43, true), (44, true), (45, true), (46, true), (47, true), (48, true), (49, true), (50, true), (51, true), (52, true), (53, true), (54, true), (55, true), (56, true), (57, true), (58, true), (59, true), (60, true), (61, true), (62, true), (63, true), (64, true), (65, true), (66, true), (67, true), (68, true), (69, true), (70, true), (71, true), (72, true), (73, true), (74, true), (75, true), (76, true), (77, true), (78, true), (79, true), (80, true), (81, true), (82, true), (83, true), (84, true), (85, true), (86, true), (87, true), (88, true)] [] (by kernel_rfl) (by kernel_rfl) rfl (by kernel_rfl) (by intro _ _ d _ _ h; cases d <;> exact h) ?_
      iterate 89
        (apply wpOrd_take
         · exact rfl
         · intro w1 h1
           (obtain ⟨a0, a1, a2, a3, a4, a5, a6⟩ := kA w1 h1)
           go_simp
           first
             | with_reducible exact ⟨rfl, Newer.grow.refl _⟩
             | with_reducible exact G1 _ | with_reducible exact G2 _ | with_reducible exact G3 _ | with_reducible exact G4 _ | with_reducible exact G5 _ | with_reducible exact G6 _ | with_reducible exact FX _
         simp only [Act.put, List.setIfInBounds_toArray, List.set_cons_zero, List.set_cons_succ])
      refine wpOrd_done fun w6 h6 => ?_
      go_wp2_with fail
      go_ret
      exact ⟨rfl, hW2.trans h6.undrew⟩
theorem walkRecordFields (W : World) (r : Rec) (hr : r.Fits) :
    Calls Try.prog 8 #[r.value] W fun e w' => e = .returned (.bool true) ∧ Below W.heap.size W w' := by
  have hcf := Rec.cut_fits hr
  cases hq : r.cut.right with
  | false => exact fields_n W r _ rfl hcf hq
  | true => exact fields_y W r _ rfl hcf hq
end Go.Proofs.Ytoofmklghllliaa
