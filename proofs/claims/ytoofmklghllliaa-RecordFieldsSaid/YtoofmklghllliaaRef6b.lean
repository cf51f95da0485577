/- lodgerref06: Decode, Next. -/
import Derived.Test.YtoofmklghllliaaRef6
import Derived.Test.YtoofmklghllliaaPure6
namespace Go.Proofs.Ytoofmklghllliaa
set_option linter.unusedSimpArgs false
set_option linter.unusedVariables false
open Go.RowKit
attribute [local go_sem high] run_mx run_mn

theorem REncode_any (r : Rec) (hr : r.Fits) (w : World) : Calls Try.prog 11 #[r.value] w fun e w' => e = .returned (.tuple #[.string (if r.right = true then r.sector else ⟨#[]⟩), .int .i64 (if r.right = true then 0 else 5)]) ∧ Below w.heap.size w w' := by
  cases h : r.right with
  | true => rw [if_pos rfl, if_pos rfl]; exact REncode_yes r hr h w
  | false => rw [if_neg (by simp), if_neg (by simp)]; exact REncode_no r hr h w
theorem RGetN (s : ByteArray) (hs : s.size ≤ 8) (u : World) : Calls Try.prog 21 #[.string s] u fun e v => e = .returned (.int .u64 (leN s.data.toList)) ∧ Newer u v :=
  (RGet_any s hs u).mono fun _ _ ⟨he, h⟩ => ⟨he, h ▸ Newer.refl u⟩
theorem fld_extract (s : ByteArray) (p m : Nat) : leN (s.extract p (p + m)).data.toList = fld s p m := by
  unfold fld
  rw [extract_list, Nat.add_sub_cancel_left]
theorem GetF (s : ByteArray) (hs : s.size = 128) (p q : Nat) (h : q ≤ p + 8) (hp : p ≤ q) (u : World) : Calls Try.prog 21 #[.string (s.extract p q)] u fun e v => e = .returned (.int .u64 (fld s p (q - p))) ∧ Newer u v := by
  have := RGetN (s.extract p q) (by rw [ByteArray.size_extract]; omega) u
  rw [show q = p + (q - p) by omega, fld_extract] at this
  rw [show q = p + (q - p) by omega, Nat.add_sub_cancel_left]; exact this
set_option maxRecDepth 100000 in
set_option maxHeartbeats 4000000 in
theorem RDecode_no (s : ByteArray) (hs : s.size ≠ 128) (w : World) : Calls Try.prog 14 #[.string s] w fun e w' => e = .returned (.tuple #[noRec.value, .int .i64 5]) ∧ Below w.heap.size w w' := by
  have hs2 : ((s.size : Int) == 128) = false := by simp; omega
  have hs3 : ((s.size : Int) != 128) = true := by simp; omega
  unfold Rec.value noRec
  go_enter Try.func14, Try.ntmps14
  go_wp2_with fail
  have hb := Blk.new w 33 #[.int .u64 0, .int .u32 0, .int .i64 0, .int .u64 0, .int .u64 0, .string ⟨#[]⟩, .string ⟨#[]⟩]
  have hld := run_loadVar_row (P := Try.prog) _ _ _ 33 _ (0, 0) _ hb Try.underlying33 rfl (by kernel_rfl)
  (try simp only [Exit.inBlock, Exit.then])
  refine bodyPost_ret (v := .tuple #[.agg #[.int .u64 0, .int .u32 0, .int .i64 0, .int .u64 0, .int .u64 0, .string ⟨#[]⟩, .string ⟨#[]⟩], .int .i64 5]) ?_ rfl ⟨rfl, (Below.refl _ _).alloc (Nat.le_refl _) _⟩
  rw [results_cell_tmp rfl]
  simp [asAddr, Result.andThen, hld]
theorem wrap_small {a : Int} {m : Nat} (h : a = (m : Int)) (hm : m < 1000000) : wrap64 a = (m : Int) := by subst h; unfold wrap64; omega
theorem two_sums (i x : Nat) (hi : i < 256) (hx : x < 256) : ∃ m1 m2 : Nat, 31 + i = m1 ∧ m1 + x = m2 ∧ wrap64 (31 + (i : Int)) = (m1 : Int) ∧ wrap64 ((m1 : Int) + (x : Int)) = (m2 : Int) :=
  ⟨31 + i, 31 + i + x, rfl, rfl, wrap_small (by omega) (by omega), wrap_small (by omega) (by omega)⟩
theorem fld_byte (s : ByteArray) (p : Nat) (h : p < s.size) : s[p].toNat = fld s p 1 := by
  have hl : p < s.data.toList.length := by rw [size_len]; exact h
  unfold fld
  rw [List.drop_eq_getElem_cons hl]
  show _ = (s.data.toList[p]).toNat + 256 * 0
  rw [Nat.mul_zero, Nat.add_zero, Array.getElem_toList]; rfl
theorem decV_no (s : ByteArray) (h : ¬ (s.size = 128 ∧ (cand s).right = true ∧ (cand s).sector = s)) : decV s = .tuple #[.agg #[.int .u64 0, .int .u32 0, .int .i64 0, .int .u64 0, .int .u64 0, .string ⟨#[]⟩, .string ⟨#[]⟩], .int .i64 5] := by
  unfold decV decR
  rw [if_neg h]
  rfl
theorem cand_small {s : ByteArray} (hs : s.size = 128) {m1 m2 : Nat} (h1 : 31 + fld s 13 1 = m1) (h2 : m1 + fld s 14 1 = m2) (h : (m2 : Int) ≤ 112) : cand s = ⟨fld s 0 8, fld s 8 4, fld s 12 1, fld s 15 8, fld s 23 8, s.extract 31 m1, s.extract m1 m2⟩ := by
  have e1 : min (fld s 13 1) 97 = fld s 13 1 := by omega
  have e2 : min (fld s 14 1) (97 - fld s 13 1) = fld s 14 1 := by omega
  unfold cand
  simp only [e1, e2, h1, h2]
theorem sums_in {i x m1 m2 : Nat} (h1 : 31 + i = m1) (h2 : m1 + x = m2) (h : ¬ 112 < m2) : (31 : Int) ≤ (m1 : Int) ∧ (m1 : Int) ≤ (m2 : Int) ∧ (m1 : Int) ≤ 128 ∧ (m2 : Int) ≤ 128 ∧ (0 : Int) ≤ (m1 : Int) := by omega
theorem decV_big (s : ByteArray) {m1 m2 : Nat} (hm1 : 31 + fld s 13 1 = m1) (hm2 : m1 + fld s 14 1 = m2) (h : 112 < m2) : decV s = .tuple #[.agg #[.int .u64 0, .int .u32 0, .int .i64 0, .int .u64 0, .int .u64 0, .string ⟨#[]⟩, .string ⟨#[]⟩], .int .i64 5] := by
  unfold decV
  rw [decR_big (by rw [hm1, hm2]; exact h)]
  rfl
theorem Rblk7_ret {v : World} {b : Nat} {x0 x1 x2 x3 x4 x5 x6 : Value} (h : Blk v b 33 #[x0, x1, x2, x3, x4, x5, x6]) :
    (loadVar 33 ⟨b, 0, none⟩).run Try.prog v = .ok (.agg #[x0, x1, x2, x3, x4, x5, x6]) v :=
  run_loadVar_row (P := Try.prog) _ _ _ 33 _ (0, 0) _ h Try.underlying33 rfl (by kernel_rfl)
set_option maxRecDepth 100000 in
set_option maxHeartbeats 4000000 in
theorem RDecode_128 (s : ByteArray) (hs : s.size = 128) (w : World) : Calls Try.prog 14 #[.string s] w fun e w' => e = .returned (decV s) ∧ Below w.heap.size w w' := by
  have hs2 : (s.size : Int) = 128 := by omega
  have hb := Blk.new w 33 #[.int .u64 0, .int .u32 0, .int .i64 0, .int .u64 0, .int .u64 0, .string ⟨#[]⟩, .string ⟨#[]⟩]
  have b1 : fld s 8 4 < 4294967296 := fld_lt s 8 4
  have b2 : fld s 12 1 < 256 := fld_lt s 12 1
  have b3 : fld s 13 1 < 256 := fld_lt s 13 1
  have b4 : fld s 14 1 < 256 := fld_lt s 14 1
  have w1 : IntKind.u32.wrap (fld s 8 4 : Int) = fld s 8 4 := by rw [IntKind.wrap_u32]; omega
  have w2 : wrap64 (fld s 12 1 : Int) = fld s 12 1 := by unfold wrap64; omega
  have w3 : wrap64 (fld s 13 1 : Int) = fld s 13 1 := by unfold wrap64; omega
  have w4 : wrap64 (fld s 14 1 : Int) = fld s 14 1 := by unfold wrap64; omega
  have l12 : 12 < s.size := by omega
  have l13 : 13 < s.size := by omega
  have l14 : 14 < s.size := by omega
  obtain ⟨m1, m2, hm1, hm2, w5, w6⟩ := two_sums _ _ b3 b4
  clear b1 b2 b3 b4
  by_cases hbig : 112 < m2
  · have hans := decV_big s hm1 hm2 hbig
    have hbi : (112 : Int) < (m2 : Int) := Int.ofNat_lt.2 hbig
    clear hm1 hm2 hbig
    have x12 := fld_byte s 12 l12
    have x13 := fld_byte s 13 l13
    have x14 := fld_byte s 14 l14
    go_enter Try.func14, Try.ntmps14
    go_wp2_with fail
    refine wp_region_ord Newer.grow [(0, true), (1, true), (2, true), (3, true), (4, true), (5, true), (6, true), (7, true)] [] (by kernel_rfl) (by kernel_rfl) rfl (by kernel_rfl) (by intro _ _ d _ _ h; cases d <;> exact h) ?_
    iterate 8
      (apply wpOrd_take
       · exact rfl
       · intro w1 h1
         (skip)
         go_simp
         first
           | with_reducible exact ⟨rfl, Newer.grow.refl _⟩
       simp only [Act.put, List.setIfInBounds_toArray, List.set_cons_zero, List.set_cons_succ])
    refine wpOrd_done fun v4 h4 => ?_
    have hb1 := hb.below h4.undrew hb.lt
    have hB2 : Below w.heap.size w v4 := ((Below.refl _ w).alloc (Nat.le_refl _) _).trans (h4.undrew.below (by simp))
    obtain ⟨p0, p1, p2, p3, p4, p5, p6⟩ := keep7 hb1 (Below.refl _ _)
    have pf := fun k => hb1.frozen k
    clear hb
    go_wp2_with fail
    obtain ⟨hbb, hBf⟩ := set7 hb1 hB2 (Nat.le_refl _) (.int .u64 0) (.int .u32 0) (.int .i64 0) (.int .u64 0) (.int .u64 0) (.string ⟨#[]⟩) (.string ⟨#[]⟩)
    have hld := Rblk7_ret hbb
    refine bodyPost_ret (v := decV s) ?_ rfl ⟨rfl, hBf⟩
    rw [results_cell_tmp rfl, hans]
    simp [asAddr, Result.andThen, hld]
  · have hbi : ¬ (112 : Int) < (m2 : Int) := fun h => hbig (Int.ofNat_lt.1 h)
    obtain ⟨k1, k2, k3, k4, k5⟩ := sums_in hm1 hm2 hbig
    have g1 := GetF s hs 0 8 (by omega) (by omega)
    have g2 := GetF s hs 8 12 (by omega) (by omega)
    have g3 := GetF s hs 15 23 (by omega) (by omega)
    have g4 := GetF s hs 23 31 (by omega) (by omega)
    rw [show 8 - 0 = 8 from rfl] at g1
    rw [show 12 - 8 = 4 from rfl] at g2
    rw [show 23 - 15 = 8 from rfl] at g3
    rw [show 31 - 23 = 8 from rfl] at g4
    have wr : ∀ n, IntKind.i64.wrap n = wrap64 n := fun n => IntWalk.i64_left n
    have HM1 := Lib.hid hm1
    have HM2 := Lib.hid hm2
    clear hm1 hm2 hbig
    have x12 := fld_byte s 12 l12
    have x13 := fld_byte s 13 l13
    have x14 := fld_byte s 14 l14
    go_enter Try.func14, Try.ntmps14
    go_wp2_with fail
    refine wp_region_ord Newer.grow [(0, true), (1, true), (2, true), (3, true), (4, true), (5, true), (6, true), (7, true)] [] (by kernel_rfl) (by kernel_rfl) rfl (by kernel_rfl) (by intro _ _ d _ _ h; cases d <;> exact h) ?_
    iterate 8
      (apply wpOrd_take
       · exact rfl
       · intro w1 h1
         (skip)
         go_simp
         first
           | with_reducible exact ⟨rfl, Newer.grow.refl _⟩
       simp only [Act.put, List.setIfInBounds_toArray, List.set_cons_zero, List.set_cons_succ])
    refine wpOrd_done fun v4 h4 => ?_
    have hb1 := hb.below h4.undrew hb.lt
    have hB2 : Below w.heap.size w v4 := ((Below.refl _ w).alloc (Nat.le_refl _) _).trans (h4.undrew.below (by simp))
    clear hb
    go_wp2_with fail
    refine wp_region_ord Newer.grow [(0, true), (1, true), (2, true), (3, true), (4, true), (5, true), (6, true), (7, true), (8, true), (9, true), (10, true), (11, true), (12, true), (13, true), (14, true), (15, true), (16, true), (17, true), (18, true), (19, true), (20, true), (21, true), (22, true), (23, true), (24, true), (25, true), (26, true), (27, true), (28, true), (29, false), (30, false)] [30] (by kernel_rfl) (by kernel_rfl) rfl (by kernel_rfl) (by intro _ _ d _ _ h; cases d <;> exact h) ?_
    iterate 29
      (apply wpOrd_take
       · exact rfl
       · intro w1 h1
         (skip)
         go_simp
         first
           | with_reducible exact ⟨rfl, Newer.grow.refl _⟩
           | with_reducible exact g1 _ | with_reducible exact g2 _ | with_reducible exact g3 _ | with_reducible exact g4 _
       simp only [Act.put, List.setIfInBounds_toArray, List.set_cons_zero, List.set_cons_succ])
    refine wpOrd_do rfl ?_
    intro v5 h5 K hK
    go_simp
    refine hK _ _ ((Newer.refl _).alloc _) ?_
    clear hK K
    refine wpOrd_last rfl (by decide) ?_
    intro v6 h6 K hK
    have hc5 := (Blk.new v5 33 #[.int .u64 0, .int .u32 0, .int .i64 0, .int .u64 0, .int .u64 0, .string ⟨#[]⟩, .string ⟨#[]⟩]).below h6 (by simp)
    obtain ⟨q0, q1, q2, q3, q4, q5, q6⟩ := keep7 hc5 (Below.refl _ _)
    have qf := fun k => hc5.frozen k
    go_simp
    refine hK _ _ ?_
    clear hK K
    refine wpOrd_done fun v7 h7 => ?_
    obtain ⟨hc6, hB6⟩ := set7 hc5 (Below.refl v5.heap.size v6) (Nat.le_refl _) (.int .u64 (fld s 0 8)) (.int .u32 (fld s 8 4)) (.int .i64 (fld s 12 1)) (.int .u64 (fld s 15 8)) (.int .u64 (fld s 23 8)) (.string (s.extract 31 m1)) (.string (s.extract m1 m2))
    have hc7 := hc6.below h7 hc6.lt
    have h56 : Below v5.heap.size v5 v6 := ((Below.refl _ v5).alloc (Nat.le_refl _) _).trans (h6.below (by simp))
    have h57 : Newer v4 v7 := Newer.trans h5.undrew (h56.trans (hB6.trans (Newer.below h7 (Nat.le_of_lt hc6.lt))))
    have hres7 := hb1.below h57 hb1.lt
    have hB7 := hB2.trans (h57.below (Nat.le_of_lt hb1.lt))
    clear hc6 hB6 h56 h57 h7 h6 hc5 q0 q1 q2 q3 q4 q5 q6 qf h5 h4 hb1 hB2 g1 g2 g3 g4
    have hcand := cand_small hs HM1.out HM2.out hbi
    obtain ⟨q0, q1, q2, q3, q4, q5, q6⟩ := keep7 hc7 (Below.refl _ _)
    have hE := fun u => REncode_any (cand s) (cand_fits s hs) u
    have hV : (cand s).value = .agg #[.int .u64 (fld s 0 8), .int .u32 (fld s 8 4), .int .i64 (fld s 12 1), .int .u64 (fld s 15 8), .int .u64 (fld s 23 8), .string (s.extract 31 m1), .string (s.extract m1 m2)] := by rw [hcand]; rfl
    rw [hV] at hE
    by_cases hr : (cand s).right = true
    · by_cases hsec : (cand s).sector = s
      · have hans : decV s = .tuple #[.agg #[.int .u64 (fld s 0 8), .int .u32 (fld s 8 4), .int .i64 (fld s 12 1), .int .u64 (fld s 15 8), .int .u64 (fld s 23 8), .string (s.extract 31 m1), .string (s.extract m1 m2)], .int .i64 0] := by
          unfold decV decR
          rw [if_pos ⟨hs, hr, hsec⟩, ← hV]
        simp only [hr, if_true, hsec] at hE
        clear hV w1 w2 w3 w4 w5 w6 hr hsec hcand x12 x13 x14 hbi k1 k2 k3 k4 k5
        go_wp2_with (first
          | (go_at_call 11; with_reducible refine (hE _).mono ?_; rintro e v13 ⟨rfl, hB13⟩; have hR14 := hc7.below hB13 hc7.lt; have hS13 := hres7.below hB13 hres7.lt; have hBB := hB7.trans (hB13.mono (Nat.le_of_lt hres7.lt)); obtain ⟨q0, q1, q2, q3, q4, q5, q6⟩ := keep7 hR14 (Below.refl _ _); obtain ⟨p0, p1, p2, p3, p4, p5, p6⟩ := keep7 hS13 (Below.refl _ _); have pf := fun k => hS13.frozen k; clear hc7 hres7 hB7 hE hB13))
        obtain ⟨hbb, hBf⟩ := set7 hS13 hBB (Nat.le_refl _) (.int .u64 (fld s 0 8)) (.int .u32 (fld s 8 4)) (.int .i64 (fld s 12 1)) (.int .u64 (fld s 15 8)) (.int .u64 (fld s 23 8)) (.string (s.extract 31 m1)) (.string (s.extract m1 m2))
        have hld := Rblk7_ret hbb
        refine bodyPost_ret (v := decV s) ?_ rfl ⟨rfl, hBf⟩
        rw [results_cell_tmp rfl, hans]
        simp [asAddr, Result.andThen, hld]
      · have hans := decV_no s (fun h => hsec h.2.2)
        have hs3 : ((cand s).sector.toList == s.toList) = false := bytes_ne hsec
        have hs4 : (!((cand s).sector.toList == s.toList)) = true := by rw [hs3]; rfl
        simp only [hr, if_true] at hE
        clear hV w1 w2 w3 w4 w5 w6 hr hsec hcand x12 x13 x14 hbi k1 k2 k3 k4 k5
        go_wp2_with (first
          | (go_at_call 11; with_reducible refine (hE _).mono ?_; rintro e v13 ⟨rfl, hB13⟩; have hR14 := hc7.below hB13 hc7.lt; have hS13 := hres7.below hB13 hres7.lt; have hBB := hB7.trans (hB13.mono (Nat.le_of_lt hres7.lt)); obtain ⟨q0, q1, q2, q3, q4, q5, q6⟩ := keep7 hR14 (Below.refl _ _); obtain ⟨p0, p1, p2, p3, p4, p5, p6⟩ := keep7 hS13 (Below.refl _ _); have pf := fun k => hS13.frozen k; clear hc7 hres7 hB7 hE hB13))
        obtain ⟨hbb, hBf⟩ := set7 hS13 hBB (Nat.le_refl _) (.int .u64 0) (.int .u32 0) (.int .i64 0) (.int .u64 0) (.int .u64 0) (.string ⟨#[]⟩) (.string ⟨#[]⟩)
        have hld := Rblk7_ret hbb
        refine bodyPost_ret (v := decV s) ?_ rfl ⟨rfl, hBf⟩
        rw [results_cell_tmp rfl, hans]
        simp [asAddr, Result.andThen, hld]
    · have hans := decV_no s (fun h => hr h.2.1)
      simp only [hr, if_false] at hE
      clear hV w1 w2 w3 w4 w5 w6 hr hcand x12 x13 x14 hbi k1 k2 k3 k4 k5
      go_wp2_with (first
        | (go_at_call 11; with_reducible refine (hE _).mono ?_; rintro e v13 ⟨rfl, hB13⟩; have hR14 := hc7.below hB13 hc7.lt; have hS13 := hres7.below hB13 hres7.lt; have hBB := hB7.trans (hB13.mono (Nat.le_of_lt hres7.lt)); obtain ⟨q0, q1, q2, q3, q4, q5, q6⟩ := keep7 hR14 (Below.refl _ _); obtain ⟨p0, p1, p2, p3, p4, p5, p6⟩ := keep7 hS13 (Below.refl _ _); have pf := fun k => hS13.frozen k; clear hc7 hres7 hB7 hE hB13))
      obtain ⟨hbb, hBf⟩ := set7 hS13 hBB (Nat.le_refl _) (.int .u64 0) (.int .u32 0) (.int .i64 0) (.int .u64 0) (.int .u64 0) (.string ⟨#[]⟩) (.string ⟨#[]⟩)
      have hld := Rblk7_ret hbb
      refine bodyPost_ret (v := decV s) ?_ rfl ⟨rfl, hBf⟩
      rw [results_cell_tmp rfl, hans]
      simp [asAddr, Result.andThen, hld]
theorem RDecode_any (s : ByteArray) (w : World) : Calls Try.prog 14 #[.string s] w fun e w' => e = .returned (decV s) ∧ Below w.heap.size w w' := by
  by_cases hs : s.size = 128
  · exact RDecode_128 s hs w
  · have : decV s = .tuple #[noRec.value, .int .i64 5] := by unfold decV; rw [decR_size hs]
    rw [this]; exact RDecode_no s hs w
set_option maxRecDepth 100000 in
set_option maxHeartbeats 4000000 in
theorem RNext_any (s : ByteArray) (l ep : Int) (w : World) : Calls Try.prog 16 #[.string s, .int .u64 l, .int .u32 ep] w fun e w' => e = .returned (nextV s l ep) ∧ Below w.heap.size w w' := by
  have hD := fun u => RDecode_any s u
  cases hd : decR s with
  | none =>
    have hans : nextV s l ep = .tuple #[noRec.value, .bool false] := by unfold nextV nextR; rw [hd]
    have hv : decV s = .tuple #[noRec.value, .int .i64 5] := by unfold decV; rw [hd]
    rw [hv] at hD
    unfold Rec.value noRec at hD hans
    have hb := Blk.new w 33 #[.int .u64 0, .int .u32 0, .int .i64 0, .int .u64 0, .int .u64 0, .string ⟨#[]⟩, .string ⟨#[]⟩]
    go_enter Try.func16, Try.ntmps16
    go_wp2_with (first
      | (go_at_call 14; with_reducible refine (hD _).mono ?_; rintro e v1 ⟨rfl, hB1⟩; have hb1 := hb.below hB1 hb.lt; have hB2 := ((Below.refl _ w).alloc (Nat.le_refl _) _).trans (hB1.mono (Nat.le_of_lt hb.lt)); obtain ⟨p0, p1, p2, p3, p4, p5, p6⟩ := keep7 hb1 (Below.refl _ _); have pf := fun k => hb1.frozen k; have hlt := hb1.lt; have hne : w.heap.size ≠ v1.heap.size := Nat.ne_of_lt hlt; have hne2 : v1.heap.size ≠ w.heap.size := hne.symm; clear hD hB1 hb))
    obtain ⟨hbb, hBf⟩ := set7 hb1 hB2 (Nat.le_refl _) (.int .u64 0) (.int .u32 0) (.int .i64 0) (.int .u64 0) (.int .u64 0) (.string ⟨#[]⟩) (.string ⟨#[]⟩)
    have hld := fun c t => Rblk7_ret (hbb.alloc (.cells c t))
    refine bodyPost_ret (v := nextV s l ep) ?_ rfl ⟨rfl, hBf.alloc (Nat.le_trans (Nat.le_of_lt hlt) (by simp)) _⟩
    rw [results_cell_tmp rfl, hans]
    simp [asAddr, Result.andThen, hld]
  | some r =>
    obtain ⟨hs, hright, hsec, hfit⟩ := decR_some hd
    have hl0 : r.lsn ≠ 0 := (Rec.sizes hright).2.2.2
    have hv : decV s = .tuple #[r.value, .int .i64 0] := by unfold decV; rw [hd]
    rw [hv] at hD
    unfold Rec.value at hD
    have hb := Blk.new w 33 #[.int .u64 0, .int .u32 0, .int .i64 0, .int .u64 0, .int .u64 0, .string ⟨#[]⟩, .string ⟨#[]⟩]
    clear hs hright hsec hfit hv
    by_cases hl : r.lsn = l
    · by_cases he : r.epoch = ep
      · have hans : nextV s l ep = .tuple #[.agg #[.int .u64 r.lsn, .int .u32 r.epoch, .int .i64 r.kind, .int .u64 r.ver, .int .u64 r.dl, .string r.id, .string r.val], .bool true] := by
          unfold nextV nextR; rw [hd]; simp only [hl, he, and_self, if_true]; unfold Rec.value; rw [hl, he]
        subst hl; subst he
        go_enter Try.func16, Try.ntmps16
        go_wp2_with (first
          | (go_at_call 14; with_reducible refine (hD _).mono ?_; rintro e v1 ⟨rfl, hB1⟩; have hb1 := hb.below hB1 hb.lt; have hB2 := ((Below.refl _ w).alloc (Nat.le_refl _) _).trans (hB1.mono (Nat.le_of_lt hb.lt)); obtain ⟨p0, p1, p2, p3, p4, p5, p6⟩ := keep7 hb1 (Below.refl _ _); have pf := fun k => hb1.frozen k; have hlt := hb1.lt; have hne : w.heap.size ≠ v1.heap.size := Nat.ne_of_lt hlt; have hne2 : v1.heap.size ≠ w.heap.size := hne.symm; clear hD hB1 hb))
        obtain ⟨hbb, hBf⟩ := set7 hb1 hB2 (Nat.le_refl _) (.int .u64 r.lsn) (.int .u32 r.epoch) (.int .i64 r.kind) (.int .u64 r.ver) (.int .u64 r.dl) (.string r.id) (.string r.val)
        have hld := fun c t => Rblk7_ret (hbb.alloc (.cells c t))
        refine bodyPost_ret (v := nextV s r.lsn r.epoch) ?_ rfl ⟨rfl, hBf.alloc (Nat.le_trans (Nat.le_of_lt hlt) (by simp)) _⟩
        rw [results_cell_tmp rfl, hans]
        simp [asAddr, Result.andThen, hld]
      · have hans : nextV s l ep = .tuple #[.agg #[.int .u64 0, .int .u32 0, .int .i64 0, .int .u64 0, .int .u64 0, .string ⟨#[]⟩, .string ⟨#[]⟩], .bool false] := by
          unfold nextV nextR; rw [hd]; simp only [hl, he, and_false, if_false]; rfl
        have heb : (r.epoch == ep) = false := by simpa using he
        subst hl
        go_enter Try.func16, Try.ntmps16
        go_wp2_with (first
          | (go_at_call 14; with_reducible refine (hD _).mono ?_; rintro e v1 ⟨rfl, hB1⟩; have hb1 := hb.below hB1 hb.lt; have hB2 := ((Below.refl _ w).alloc (Nat.le_refl _) _).trans (hB1.mono (Nat.le_of_lt hb.lt)); obtain ⟨p0, p1, p2, p3, p4, p5, p6⟩ := keep7 hb1 (Below.refl _ _); have pf := fun k => hb1.frozen k; have hlt := hb1.lt; have hne : w.heap.size ≠ v1.heap.size := Nat.ne_of_lt hlt; have hne2 : v1.heap.size ≠ w.heap.size := hne.symm; clear hD hB1 hb))
        obtain ⟨hbb, hBf⟩ := set7 hb1 hB2 (Nat.le_refl _) (.int .u64 0) (.int .u32 0) (.int .i64 0) (.int .u64 0) (.int .u64 0) (.string ⟨#[]⟩) (.string ⟨#[]⟩)
        have hld := fun c t => Rblk7_ret (hbb.alloc (.cells c t))
        refine bodyPost_ret (v := nextV s r.lsn ep) ?_ rfl ⟨rfl, hBf.alloc (Nat.le_trans (Nat.le_of_lt hlt) (by simp)) _⟩
        rw [results_cell_tmp rfl, hans]
        simp [asAddr, Result.andThen, hld]
    · have hans : nextV s l ep = .tuple #[.agg #[.int .u64 0, .int .u32 0, .int .i64 0, .int .u64 0, .int .u64 0, .string ⟨#[]⟩, .string ⟨#[]⟩], .bool false] := by
        unfold nextV nextR; rw [hd]; simp only [hl, false_and, if_false]; rfl
      have hlb : (r.lsn == l) = false := by simpa using hl
      go_enter Try.func16, Try.ntmps16
      go_wp2_with (first
        | (go_at_call 14; with_reducible refine (hD _).mono ?_; rintro e v1 ⟨rfl, hB1⟩; have hb1 := hb.below hB1 hb.lt; have hB2 := ((Below.refl _ w).alloc (Nat.le_refl _) _).trans (hB1.mono (Nat.le_of_lt hb.lt)); obtain ⟨p0, p1, p2, p3, p4, p5, p6⟩ := keep7 hb1 (Below.refl _ _); have pf := fun k => hb1.frozen k; have hlt := hb1.lt; have hne : w.heap.size ≠ v1.heap.size := Nat.ne_of_lt hlt; have hne2 : v1.heap.size ≠ w.heap.size := hne.symm; clear hD hB1 hb))
      obtain ⟨hbb, hBf⟩ := set7 hb1 hB2 (Nat.le_refl _) (.int .u64 0) (.int .u32 0) (.int .i64 0) (.int .u64 0) (.int .u64 0) (.string ⟨#[]⟩) (.string ⟨#[]⟩)
      have hld := fun c t => Rblk7_ret (hbb.alloc (.cells c t))
      refine bodyPost_ret (v := nextV s l ep) ?_ rfl ⟨rfl, hBf.alloc (Nat.le_trans (Nat.le_of_lt hlt) (by simp)) _⟩
      rw [results_cell_tmp rfl, hans]
      simp [asAddr, Result.andThen, hld]
end Go.Proofs.Ytoofmklghllliaa
