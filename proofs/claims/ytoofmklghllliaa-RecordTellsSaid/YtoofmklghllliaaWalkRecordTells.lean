/- The walk of the law RecordTells. -/
import Derived.Test.YtoofmklghllliaaFixed06
namespace Go.Proofs.Ytoofmklghllliaa
set_option linter.unusedSimpArgs false
set_option linter.unusedVariables false
open Go.RowKit
attribute [local go_sem high] run_mx run_mn

set_option maxRecDepth 100000 in
set_option maxHeartbeats 4000000 in
theorem walkRecordTells (W : World) (r : Rec) (hr : r.Fits) (s : ByteArray) (_hs : s.size ≤ 140737488351232) (p : Int × Int) (_hp : (0 ≤ p.1 ∧ p.1 < 18446744073709551616) ∧ (0 ≤ p.2 ∧ p.2 < 4294967296)) :
    Calls Try.prog 3 #[r.value, .string s, .agg #[.int .u64 p.1, .int .u32 p.2]] W fun e w' => e = .returned (.bool true) ∧ Below W.heap.size W w' := by
  have m1 : (0 : Int) ≤ mn (s.size : Int) 130 := by rw [mn_def]; omega
  have m2 : mn (s.size : Int) 130 ≤ (s.size : Int) := by rw [mn_def]; omega
  have m3 : (0 : Int) ≤ min (s.size : Int) 130 := by omega
  have m4 : min (s.size : Int) 130 ≤ (s.size : Int) := by omega
  have C1 := fun u => Cut_any r u
  have hcf := Rec.cut_fits hr
  generalize r.cut = q at C1 hcf
  obtain ⟨t, ht⟩ : ∃ t, s.extract 0 (min (s.size : Int) 130).toNat = t := ⟨_, rfl⟩
  have E1 := fun u => Encode_any q hcf u
  have E2 := fun u => REncode_any q hcf u
  have F1 := fun u => Ref_any q u
  generalize (if q.right = true then q.sector else ⟨#[]⟩) = sec at E1 E2
  generalize (if q.right = true then (0 : Int) else 5) = err at E1 E2
  have D1 := fun u => Decode_any t u
  have D2 := fun u => RDecode_any t u
  have N1 := fun u => Next_any t p.1 p.2 u
  have N2 := fun u => RNext_any t p.1 p.2 u
  rw [decV_eq] at D1 D2
  rw [nextV_eq] at N1 N2
  generalize decD t = d at D1 D2
  generalize decE t = de at D1 D2
  generalize nextD t p.1 p.2 = x at N1 N2
  generalize (nextR t p.1 p.2).isSome = nx at N1 N2
  have G1 := fun u => RightN q hcf u
  have G2 := fun u => RRightN q hcf u
  have F2 := fun u => RefN q u
  have F3 := fun u => RefN d u
  have F4 := fun u => RefN x u
  have FX := fun u => fixedN u
  unfold Rec.value at C1 E1 E2 F1 D1 D2 N1 N2 G1 G2 F2 F3 F4 ⊢
  have A0 := (Blk.new W 25 #[.int .u64 r.lsn, .int .u32 r.epoch, .int .i64 r.kind, .int .u64 r.ver, .int .u64 r.dl, .string r.id, .string r.val]).alloc (.cells #[.int .u64 p.1, .int .u32 p.2] 27)
  have P0 := Blk.new (W.alloc (.cells #[.int .u64 r.lsn, .int .u32 r.epoch, .int .i64 r.kind, .int .u64 r.ver, .int .u64 r.dl, .string r.id, .string r.val] 25)) 27 #[.int .u64 p.1, .int .u32 p.2]
  rw [show (W.alloc (.cells #[.int .u64 r.lsn, .int .u32 r.epoch, .int .i64 r.kind, .int .u64 r.ver, .int .u64 r.dl, .string r.id, .string r.val] 25)).heap.size = W.heap.size + 1 by simp] at P0
  have hW0 := ((Newer.refl W).alloc (.cells #[.int .u64 r.lsn, .int .u32 r.epoch, .int .i64 r.kind, .int .u64 r.ver, .int .u64 r.dl, .string r.id, .string r.val] 25)).alloc (.cells #[.int .u64 p.1, .int .u32 p.2] 27)
  go_enter Try.func3, Try.ntmps3
  go_wp2_with (first
    | (go_at_call 9; (with_reducible refine (C1 _).mono ?_); rintro e v1 ⟨rfl, hB⟩; have A1 := A0.below hB A0.lt; have P1 := P0.below hB P0.lt; have hW1 := hW0.trans hB; clear A0 P0 hW0 hB C1; obtain ⟨cA0, cA1, cA2, cA3, cA4, cA5, cA6⟩ := cells7 A1; have lA := A1.lt; have fA := fun k => A1.frozen k)
    | (go_at_call 10; (with_reducible refine (E1 _).mono ?_); rintro e v2 ⟨rfl, hB⟩; obtain ⟨hS, hS2⟩ := set7N A1 hW1 (by simp) (.int .u64 q.lsn) (.int .u32 q.epoch) (.int .i64 q.kind) (.int .u64 q.ver) (.int .u64 q.dl) (.string q.id) (.string q.val); have A2 := hS.below hB hS.lt; have P2 := (far7 P1 (by simp) (.int .u64 q.lsn) (.int .u32 q.epoch) (.int .i64 q.kind) (.int .u64 q.ver) (.int .u64 q.dl) (.string q.id) (.string q.val)).below hB (far7 P1 (by simp) (.int .u64 q.lsn) (.int .u32 q.epoch) (.int .i64 q.kind) (.int .u64 q.ver) (.int .u64 q.dl) (.string q.id) (.string q.val)).lt; have hW2 := hS2.trans hB; clear hS hS2; clear A1 P1 hW1 hB E1; clear cA0 cA1 cA2 cA3 cA4 cA5 cA6 lA fA; obtain ⟨cA0, cA1, cA2, cA3, cA4, cA5, cA6⟩ := cells7 A2; have lA := A2.lt; have fA := fun k => A2.frozen k)
    | (go_at_call 12; (with_reducible refine (F1 _).mono ?_); rintro e v3 ⟨rfl, hB⟩; have A3 := A2.below hB A2.lt; have P3 := P2.below hB P2.lt; have hW3 := hW2.trans hB; clear A2 P2 hW2 hB F1; clear cA0 cA1 cA2 cA3 cA4 cA5 cA6 lA fA)
    | (go_at_call 11; (with_reducible refine (E2 _).mono ?_); rintro e v4 ⟨rfl, hB⟩; have A4 := A3.below hB A3.lt; have P4 := P3.below hB P3.lt; have hW4 := hW3.trans hB; clear A3 P3 hW3 hB E2)
    | (go_at_call 13; (with_reducible refine (D1 _).mono ?_); rintro e v5 ⟨rfl, hB⟩; have A5 := A4.below hB A4.lt; have P5 := P4.below hB P4.lt; have hW5 := hW4.trans hB; clear A4 P4 hW4 hB D1)
    | (go_at_call 14; (with_reducible refine (D2 _).mono ?_); rintro e v6 ⟨rfl, hB⟩; have A6 := A5.on _ hB; have P6 := P5.on _ hB; have hW6 := (hW5.alloc _).trans hB; have X6 := (Blk.new v5 25 #[.int .u64 d.lsn, .int .u32 d.epoch, .int .i64 d.kind, .int .u64 d.ver, .int .u64 d.dl, .string d.id, .string d.val]).below hB (Blk.new v5 25 #[.int .u64 d.lsn, .int .u32 d.epoch, .int .i64 d.kind, .int .u64 d.ver, .int .u64 d.dl, .string d.id, .string d.val]).lt; clear A5 P5 hW5 hB D2; obtain ⟨cP0, cP1⟩ := cells2 P6; have lP := P6.lt; have fP := fun k => P6.frozen k)
    | (go_at_call 15; (with_reducible refine (N1 _).mono ?_); rintro e v7 ⟨rfl, hB⟩; have A7 := A6.on _ hB; have P7 := P6.on _ hB; have X7 := X6.on _ hB; have hW7 := (hW6.alloc _).trans hB; have Y7 := (Blk.new v6 33 #[.int .u64 d.lsn, .int .u32 d.epoch, .int .i64 d.kind, .int .u64 d.ver, .int .u64 d.dl, .string d.id, .string d.val]).below hB (Blk.new v6 33 #[.int .u64 d.lsn, .int .u32 d.epoch, .int .i64 d.kind, .int .u64 d.ver, .int .u64 d.dl, .string d.id, .string d.val]).lt; clear A6 P6 X6 hW6 hB N1; clear cP0 cP1 lP fP; obtain ⟨cP0, cP1⟩ := cells2 P7; have lP := P7.lt; have fP := fun k => P7.frozen k)
    | (go_at_call 16; (with_reducible refine (N2 _).mono ?_); rintro e v8 ⟨rfl, hB⟩; have A8 := A7.on _ hB; have P8 := P7.on _ hB; have X8 := X7.on _ hB; have Y8 := Y7.on _ hB; have hW8 := (hW7.alloc _).trans hB; have U8 := (Blk.new v7 25 #[.int .u64 x.lsn, .int .u32 x.epoch, .int .i64 x.kind, .int .u64 x.ver, .int .u64 x.dl, .string x.id, .string x.val]).below hB (Blk.new v7 25 #[.int .u64 x.lsn, .int .u32 x.epoch, .int .i64 x.kind, .int .u64 x.ver, .int .u64 x.dl, .string x.id, .string x.val]).lt; clear A7 P7 X7 Y7 hW7 hB N2; clear cP0 cP1 lP fP)
    )
  have Q9 := Blk.new v8 33 #[.int .u64 x.lsn, .int .u32 x.epoch, .int .i64 x.kind, .int .u64 x.ver, .int .u64 x.dl, .string x.id, .string x.val]
  have hW9 := hW8.alloc (.cells #[.int .u64 x.lsn, .int .u32 x.epoch, .int .i64 x.kind, .int .u64 x.ver, .int .u64 x.dl, .string x.id, .string x.val] 33)
  have kA := fun w1 (h : Newer (v8.alloc (.cells #[.int .u64 x.lsn, .int .u32 x.epoch, .int .i64 x.kind, .int .u64 x.ver, .int .u64 x.dl, .string x.id, .string x.val] 33)).drew w1) => cells7 (A8.on _ h.undrew)
  have kX := fun w1 (h : Newer (v8.alloc (.cells #[.int .u64 x.lsn, .int .u32 x.epoch, .int .i64 x.kind, .int .u64 x.ver, .int .u64 x.dl, .string x.id, .string x.val] 33)).drew w1) => cells7 (X8.on _ h.undrew)
  have kY := fun w1 (h : Newer (v8.alloc (.cells #[.int .u64 x.lsn, .int .u32 x.epoch, .int .i64 x.kind, .int .u64 x.ver, .int .u64 x.dl, .string x.id, .string x.val] 33)).drew w1) => cells7 (Y8.on _ h.undrew)
  have kU := fun w1 (h : Newer (v8.alloc (.cells #[.int .u64 x.lsn, .int .u32 x.epoch, .int .i64 x.kind, .int .u64 x.ver, .int .u64 x.dl, .string x.id, .string x.val] 33)).drew w1) => cells7 (U8.on _ h.undrew)
  have kQ := fun w1 (h : Newer (v8.alloc (.cells #[.int .u64 x.lsn, .int .u32 x.epoch, .int .i64 x.kind, .int .u64 x.ver, .int .u64 x.dl, .string x.id, .string x.val] 33)).drew w1) => cells7 (Q9.below h.undrew Q9.lt)
  clear A8 X8 Y8 U8 Q9 P8 hW8
  generalize v8.alloc (.cells #[.int .u64 x.lsn, .int .u32 x.epoch, .int .i64 x.kind, .int .u64 x.ver, .int .u64 x.dl, .string x.id, .string x.val] 33) = v9 at *
  refine wp_region_ord Newer.grow [(0, true), (1, true), (2, true), (3, true), (4, true), (5, true), (6, true), (7, true), (8, true), (9, true), (10, true), (11, true), (12, true), (13, true), (14, true), (15, true), (16, true), (17, true), (18, true), (19, true), (20, true), (21, true), (22, true), (23, true), (24, true), (25, true), (26, true), (27, true), (28, true), (29, true), (30, true), (31, true), (32, true), (33, true), (34, true), (35, true), (36, true), (37, true), (38, true), (39, true), (40, true), (41, true)] [] (by kernel_rfl) (by kernel_rfl) rfl (by kernel_rfl) (by intro _ _ d _ _ h; cases d <;> exact h) ?_
  iterate 42
    (apply wpOrd_take
     · exact rfl
     · intro w1 h1
       (obtain ⟨a0, a1, a2, a3, a4, a5, a6⟩ := kA w1 h1; obtain ⟨b0, b1, b2, b3, b4, b5, b6⟩ := kX w1 h1; obtain ⟨c0, c1, c2, c3, c4, c5, c6⟩ := kY w1 h1; obtain ⟨d0, d1, d2, d3, d4, d5, d6⟩ := kU w1 h1; obtain ⟨e0, e1, e2, e3, e4, e5, e6⟩ := kQ w1 h1)
       go_simp
       first
         | with_reducible exact ⟨rfl, Newer.grow.refl _⟩
         | with_reducible exact G1 _ | with_reducible exact G2 _ | with_reducible exact F2 _ | with_reducible exact F3 _ | with_reducible exact F4 _ | with_reducible exact FX _
     simp only [Act.put, List.setIfInBounds_toArray, List.set_cons_zero, List.set_cons_succ])
  refine wpOrd_done fun w6 h6 => ?_
  go_wp2_with fail
  go_ret
  exact ⟨rfl, hW9.trans h6.undrew⟩
end Go.Proofs.Ytoofmklghllliaa
