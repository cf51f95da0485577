/- record.Next. -/
import Derived.Test.YtoofmklghllliaaDecode
namespace Go.Proofs.Ytoofmklghllliaa
set_option linter.unusedSimpArgs false
set_option linter.unusedVariables false
open Go.RowKit
attribute [local go_sem high] run_mx run_mn

theorem decR_size {s : ByteArray} (hs : s.size ≠ 128) : decR s = none := by unfold decR; rw [if_neg (fun h => hs h.1)]
theorem Decode_any (s : ByteArray) (w : World) : Calls Try.prog 13 #[.string s] w fun e w' => e = .returned (decV s) ∧ Below w.heap.size w w' := by
  by_cases hs : s.size = 128
  · exact Decode_128 s hs w
  · have : decV s = .tuple #[noRec.value, .int .i64 5] := by unfold decV; rw [decR_size hs]
    rw [this]; exact Decode_no s hs w
theorem decR_some {s : ByteArray} {r : Rec} (h : decR s = some r) : s.size = 128 ∧ r.right = true ∧ r.sector = s ∧ r.Fits := by
  unfold decR at h
  split at h
  · rename_i hc
    injection h with h
    subst h
    exact ⟨hc.1, hc.2.1, hc.2.2, cand_fits s hc.1⟩
  · cases h
/-- The next record of a place and an epoch. -/
def nextR (s : ByteArray) (l ep : Int) : Option Rec := match decR s with
  | some r => if r.lsn = l ∧ r.epoch = ep then some r else none
  | none => none
def nextV (s : ByteArray) (l ep : Int) : Value := match nextR s l ep with
  | some r => .tuple #[r.value, .bool true]
  | none => .tuple #[noRec.value, .bool false]
theorem blk7_ret {v : World} {b : Nat} {x0 x1 x2 x3 x4 x5 x6 : Value} (h : Blk v b 25 #[x0, x1, x2, x3, x4, x5, x6]) :
    (loadVar 25 ⟨b, 0, none⟩).run Try.prog v = .ok (.agg #[x0, x1, x2, x3, x4, x5, x6]) v :=
  run_loadVar_row (P := Try.prog) _ _ _ 25 _ (0, 0) _ h Try.underlying25 rfl (by kernel_rfl)
theorem set7 {w v : World} {B b : Nat} {t : TypeId} {x0 x1 x2 x3 x4 x5 x6 : Value} (h : Blk v b t #[x0, x1, x2, x3, x4, x5, x6]) (hB : Below B w v) (hb : B ≤ b) (y0 y1 y2 y3 y4 y5 y6 : Value) :
    Blk (((((((v.setCell ⟨b, 0, none⟩ y0).setCell ⟨b, 1, none⟩ y1).setCell ⟨b, 2, none⟩ y2).setCell ⟨b, 3, none⟩ y3).setCell ⟨b, 4, none⟩ y4).setCell ⟨b, 5, none⟩ y5).setCell ⟨b, 6, none⟩ y6) b t #[y0, y1, y2, y3, y4, y5, y6] ∧
    Below B w (((((((v.setCell ⟨b, 0, none⟩ y0).setCell ⟨b, 1, none⟩ y1).setCell ⟨b, 2, none⟩ y2).setCell ⟨b, 3, none⟩ y3).setCell ⟨b, 4, none⟩ y4).setCell ⟨b, 5, none⟩ y5).setCell ⟨b, 6, none⟩ y6) :=
  ⟨by
    have h7 := ((((((h.set_ 0 y0).set_ 1 y1).set_ 2 y2).set_ 3 y3).set_ 4 y4).set_ 5 y5).set_ 6 y6
    simp only [List.setIfInBounds_toArray, List.set_cons_zero, List.set_cons_succ] at h7
    exact h7,
    (((((((hB.setCell (p := ⟨b, 0, none⟩) hb y0).setCell (p := ⟨b, 1, none⟩) hb y1).setCell (p := ⟨b, 2, none⟩) hb y2).setCell (p := ⟨b, 3, none⟩) hb y3).setCell (p := ⟨b, 4, none⟩) hb y4).setCell (p := ⟨b, 5, none⟩) hb y5).setCell (p := ⟨b, 6, none⟩) hb y6)⟩
set_option maxRecDepth 100000 in
set_option maxHeartbeats 4000000 in
theorem Next_any (s : ByteArray) (l ep : Int) (w : World) : Calls Try.prog 15 #[.string s, .int .u64 l, .int .u32 ep] w fun e w' => e = .returned (nextV s l ep) ∧ Below w.heap.size w w' := by
  have hD := fun u => Decode_any s u
  cases hd : decR s with
  | none =>
    have hans : nextV s l ep = .tuple #[noRec.value, .bool false] := by unfold nextV nextR; rw [hd]
    have hv : decV s = .tuple #[noRec.value, .int .i64 5] := by unfold decV; rw [hd]
    rw [hv] at hD
    unfold Rec.value noRec at hD hans
    have hb := Blk.new w 25 #[.int .u64 0, .int .u32 0, .int .i64 0, .int .u64 0, .int .u64 0, .string ⟨#[]⟩, .string ⟨#[]⟩]
    go_enter Try.func15, Try.ntmps15
    go_wp2_with (first
      | (go_at_call 13; with_reducible refine (hD _).mono ?_; rintro e v1 ⟨rfl, hB1⟩; have hb1 := hb.below hB1 hb.lt; have hB2 := ((Below.refl _ w).alloc (Nat.le_refl _) _).trans (hB1.mono (Nat.le_of_lt hb.lt)); obtain ⟨p0, p1, p2, p3, p4, p5, p6⟩ := keep7 hb1 (Below.refl _ _); have pf := fun k => hb1.frozen k; have hlt := hb1.lt; have hne : w.heap.size ≠ v1.heap.size := Nat.ne_of_lt hlt; have hne2 : v1.heap.size ≠ w.heap.size := hne.symm; clear hD hB1 hb))
    obtain ⟨hbb, hBf⟩ := set7 hb1 hB2 (Nat.le_refl _) (.int .u64 0) (.int .u32 0) (.int .i64 0) (.int .u64 0) (.int .u64 0) (.string ⟨#[]⟩) (.string ⟨#[]⟩)
    have hld := fun c t => blk7_ret (hbb.alloc (.cells c t))
    refine bodyPost_ret (v := nextV s l ep) ?_ rfl ⟨rfl, hBf.alloc (Nat.le_trans (Nat.le_of_lt hlt) (by simp)) _⟩
    rw [results_cell_tmp rfl, hans]
    simp [asAddr, Result.andThen, hld]
  | some r =>
    obtain ⟨hs, hright, hsec, hfit⟩ := decR_some hd
    have hl0 : r.lsn ≠ 0 := (Rec.sizes hright).2.2.2
    have hv : decV s = .tuple #[r.value, .int .i64 0] := by unfold decV; rw [hd]
    rw [hv] at hD
    unfold Rec.value at hD
    have hb := Blk.new w 25 #[.int .u64 0, .int .u32 0, .int .i64 0, .int .u64 0, .int .u64 0, .string ⟨#[]⟩, .string ⟨#[]⟩]
    clear hs hright hsec hfit hv
    by_cases hl : r.lsn = l
    · by_cases he : r.epoch = ep
      · have hans : nextV s l ep = .tuple #[.agg #[.int .u64 r.lsn, .int .u32 r.epoch, .int .i64 r.kind, .int .u64 r.ver, .int .u64 r.dl, .string r.id, .string r.val], .bool true] := by
          unfold nextV nextR; rw [hd]; simp only [hl, he, and_self, if_true]; unfold Rec.value; rw [hl, he]
        subst hl; subst he
        go_enter Try.func15, Try.ntmps15
        go_wp2_with (first
          | (go_at_call 13; with_reducible refine (hD _).mono ?_; rintro e v1 ⟨rfl, hB1⟩; have hb1 := hb.below hB1 hb.lt; have hB2 := ((Below.refl _ w).alloc (Nat.le_refl _) _).trans (hB1.mono (Nat.le_of_lt hb.lt)); obtain ⟨p0, p1, p2, p3, p4, p5, p6⟩ := keep7 hb1 (Below.refl _ _); have pf := fun k => hb1.frozen k; have hlt := hb1.lt; have hne : w.heap.size ≠ v1.heap.size := Nat.ne_of_lt hlt; have hne2 : v1.heap.size ≠ w.heap.size := hne.symm; clear hD hB1 hb))
        obtain ⟨hbb, hBf⟩ := set7 hb1 hB2 (Nat.le_refl _) (.int .u64 r.lsn) (.int .u32 r.epoch) (.int .i64 r.kind) (.int .u64 r.ver) (.int .u64 r.dl) (.string r.id) (.string r.val)
        have hld := fun c t => blk7_ret (hbb.alloc (.cells c t))
        refine bodyPost_ret (v := nextV s r.lsn r.epoch) ?_ rfl ⟨rfl, hBf.alloc (Nat.le_trans (Nat.le_of_lt hlt) (by simp)) _⟩
        rw [results_cell_tmp rfl, hans]
        simp [asAddr, Result.andThen, hld]
      · have hans : nextV s l ep = .tuple #[.agg #[.int .u64 0, .int .u32 0, .int .i64 0, .int .u64 0, .int .u64 0, .string ⟨#[]⟩, .string ⟨#[]⟩], .bool false] := by
          unfold nextV nextR; rw [hd]; simp only [hl, he, and_false, if_false]; rfl
        have heb : (r.epoch == ep) = false := by simpa using he
        subst hl
        go_enter Try.func15, Try.ntmps15
        go_wp2_with (first
          | (go_at_call 13; with_reducible refine (hD _).mono ?_; rintro e v1 ⟨rfl, hB1⟩; have hb1 := hb.below hB1 hb.lt; have hB2 := ((Below.refl _ w).alloc (Nat.le_refl _) _).trans (hB1.mono (Nat.le_of_lt hb.lt)); obtain ⟨p0, p1, p2, p3, p4, p5, p6⟩ := keep7 hb1 (Below.refl _ _); have pf := fun k => hb1.frozen k; have hlt := hb1.lt; have hne : w.heap.size ≠ v1.heap.size := Nat.ne_of_lt hlt; have hne2 : v1.heap.size ≠ w.heap.size := hne.symm; clear hD hB1 hb))
        obtain ⟨hbb, hBf⟩ := set7 hb1 hB2 (Nat.le_refl _) (.int .u64 0) (.int .u32 0) (.int .i64 0) (.int .u64 0) (.int .u64 0) (.string ⟨#[]⟩) (.string ⟨#[]⟩)
        have hld := fun c t => blk7_ret (hbb.alloc (.cells c t))
        refine bodyPost_ret (v := nextV s r.lsn ep) ?_ rfl ⟨rfl, hBf.alloc (Nat.le_trans (Nat.le_of_lt hlt) (by simp)) _⟩
        rw [results_cell_tmp rfl, hans]
        simp [asAddr, Result.andThen, hld]
    · have hans : nextV s l ep = .tuple #[.agg #[.int .u64 0, .int .u32 0, .int .i64 0, .int .u64 0, .int .u64 0, .string ⟨#[]⟩, .string ⟨#[]⟩], .bool false] := by
        unfold nextV nextR; rw [hd]; simp only [hl, false_and, if_false]; rfl
      have hlb : (r.lsn == l) = false := by simpa using hl
      go_enter Try.func15, Try.ntmps15
      go_wp2_with (first
        | (go_at_call 13; with_reducible refine (hD _).mono ?_; rintro e v1 ⟨rfl, hB1⟩; have hb1 := hb.below hB1 hb.lt; have hB2 := ((Below.refl _ w).alloc (Nat.le_refl _) _).trans (hB1.mono (Nat.le_of_lt hb.lt)); obtain ⟨p0, p1, p2, p3, p4, p5, p6⟩ := keep7 hb1 (Below.refl _ _); have pf := fun k => hb1.frozen k; have hlt := hb1.lt; have hne : w.heap.size ≠ v1.heap.size := Nat.ne_of_lt hlt; have hne2 : v1.heap.size ≠ w.heap.size := hne.symm; clear hD hB1 hb))
      obtain ⟨hbb, hBf⟩ := set7 hb1 hB2 (Nat.le_refl _) (.int .u64 0) (.int .u32 0) (.int .i64 0) (.int .u64 0) (.int .u64 0) (.string ⟨#[]⟩) (.string ⟨#[]⟩)
      have hld := fun c t => blk7_ret (hbb.alloc (.cells c t))
      refine bodyPost_ret (v := nextV s l ep) ?_ rfl ⟨rfl, hBf.alloc (Nat.le_trans (Nat.le_of_lt hlt) (by simp)) _⟩
      rw [results_cell_tmp rfl, hans]
      simp [asAddr, Result.andThen, hld]
end Go.Proofs.Ytoofmklghllliaa
