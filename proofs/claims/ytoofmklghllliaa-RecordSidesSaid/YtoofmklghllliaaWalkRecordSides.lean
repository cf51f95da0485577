/- The walk of the law RecordSides. -/
import Derived.Test.YtoofmklghllliaaWalkRecordBack
import Derived.Test.YtoofmklghllliaaTornPure
namespace Go.Proofs.Ytoofmklghllliaa
set_option linter.unusedSimpArgs false
set_option linter.unusedVariables false
open Go.RowKit
attribute [local go_sem high] run_mx run_mn

theorem rec_eq {p q : Rec} (h1 : p.lsn = q.lsn) (h2 : p.epoch = q.epoch) (h3 : p.kind = q.kind) (h4 : p.ver = q.ver) (h5 : p.dl = q.dl) (h6 : p.id.toList = q.id.toList) (h7 : p.val.toList = q.val.toList) : p = q := by
  have h6 := bytes_inj h6
  have h7 := bytes_inj h7
  cases p; cases q
  simp_all
set_option maxRecDepth 100000 in
set_option maxHeartbeats 4000000 in
theorem sides_n (W : World) (a b p q : Rec) (ha : a.cut = p) (hb : b.cut = q) (hpf : p.Fits) (hqf : q.Fits) (hp : p.right = false) :
    Calls Try.prog 7 #[a.value, b.value] W fun e w' => e = .returned (.bool true) ∧ Below W.heap.size W w' := by
  have C1 := fun u => Cut_any a u
  have C2 := fun u => Cut_any b u
  rw [ha] at C1
  rw [hb] at C2
  have E1 := fun u => Encode_no p hpf hp u
  have E2 := fun u => Encode_any q hqf u
  generalize (if q.right = true then q.sector else ⟨#[]⟩) = sec at E2
  generalize (if q.right = true then (0 : Int) else 5) = err at E2
  clear ha hb hpf hqf hp
  have FX := fun u => fixed_any u
  unfold Rec.value at *
  have A0 := (Blk.new W 25 #[.int .u64 a.lsn, .int .u32 a.epoch, .int .i64 a.kind, .int .u64 a.ver, .int .u64 a.dl, .string a.id, .string a.val]).alloc (.cells #[.int .u64 b.lsn, .int .u32 b.epoch, .int .i64 b.kind, .int .u64 b.ver, .int .u64 b.dl, .string b.id, .string b.val] 25)
  have B0 := Blk.new (W.alloc (.cells #[.int .u64 a.lsn, .int .u32 a.epoch, .int .i64 a.kind, .int .u64 a.ver, .int .u64 a.dl, .string a.id, .string a.val] 25)) 25 #[.int .u64 b.lsn, .int .u32 b.epoch, .int .i64 b.kind, .int .u64 b.ver, .int .u64 b.dl, .string b.id, .string b.val]
  rw [show (W.alloc (.cells #[.int .u64 a.lsn, .int .u32 a.epoch, .int .i64 a.kind, .int .u64 a.ver, .int .u64 a.dl, .string a.id, .string a.val] 25)).heap.size = W.heap.size + 1 by simp] at B0
  have hW0 := ((Newer.refl W).alloc (.cells #[.int .u64 a.lsn, .int .u32 a.epoch, .int .i64 a.kind, .int .u64 a.ver, .int .u64 a.dl, .string a.id, .string a.val] 25)).alloc (.cells #[.int .u64 b.lsn, .int .u32 b.epoch, .int .i64 b.kind, .int .u64 b.ver, .int .u64 b.dl, .string b.id, .string b.val] 25)
  go_enter Try.func7, Try.ntmps7
  go_wp2_with (first
    | (go_at_call 9; (with_reducible refine (C1 _).mono ?_); rintro e v1 ⟨rfl, hB⟩; have A1 := A0.below hB A0.lt; have B1 := B0.below hB B0.lt; have hW1 := hW0.trans hB; clear A0 B0 hW0 hB C1; obtain ⟨cA0, cA1, cA2, cA3, cA4, cA5, cA6⟩ := cells7 A1; have lA := A1.lt; have fA := fun k => A1.frozen k; obtain ⟨cB0, cB1, cB2, cB3, cB4, cB5, cB6⟩ := cells7 B1; have lB := B1.lt; have fB := fun k => B1.frozen k)
    | (go_at_call 9; (with_reducible refine (C2 _).mono ?_); rintro e v2 ⟨rfl, hB⟩; obtain ⟨hS, hS2⟩ := set7N A1 hW1 (by simp) (.int .u64 p.lsn) (.int .u32 p.epoch) (.int .i64 p.kind) (.int .u64 p.ver) (.int .u64 p.dl) (.string p.id) (.string p.val); have A2 := hS.below hB hS.lt; have B2 := (far7 B1 (by simp) (.int .u64 p.lsn) (.int .u32 p.epoch) (.int .i64 p.kind) (.int .u64 p.ver) (.int .u64 p.dl) (.string p.id) (.string p.val)).below hB (far7 B1 (by simp) (.int .u64 p.lsn) (.int .u32 p.epoch) (.int .i64 p.kind) (.int .u64 p.ver) (.int .u64 p.dl) (.string p.id) (.string p.val)).lt; have hW2 := hS2.trans hB; clear hS hS2; clear A1 B1 hW1 hB C2; clear cA0 cA1 cA2 cA3 cA4 cA5 cA6 lA fA cB0 cB1 cB2 cB3 cB4 cB5 cB6 lB fB; obtain ⟨cA0, cA1, cA2, cA3, cA4, cA5, cA6⟩ := cells7 A2; have lA := A2.lt; have fA := fun k => A2.frozen k; obtain ⟨cB0, cB1, cB2, cB3, cB4, cB5, cB6⟩ := cells7 B2; have lB := B2.lt; have fB := fun k => B2.frozen k)
    | (go_at_call 10; (with_reducible refine (E1 _).mono ?_); rintro e v3 ⟨rfl, hB⟩; obtain ⟨hS, hS2⟩ := set7N B2 hW2 (by simp) (.int .u64 q.lsn) (.int .u32 q.epoch) (.int .i64 q.kind) (.int .u64 q.ver) (.int .u64 q.dl) (.string q.id) (.string q.val); have A3 := (far7 A2 (by simp) (.int .u64 q.lsn) (.int .u32 q.epoch) (.int .i64 q.kind) (.int .u64 q.ver) (.int .u64 q.dl) (.string q.id) (.string q.val)).below hB (far7 A2 (by simp) (.int .u64 q.lsn) (.int .u32 q.epoch) (.int .i64 q.kind) (.int .u64 q.ver) (.int .u64 q.dl) (.string q.id) (.string q.val)).lt; have B3 := hS.below hB hS.lt; have hW3 := hS2.trans hB; clear hS hS2; clear A2 B2 hW2 hB E1; clear cA0 cA1 cA2 cA3 cA4 cA5 cA6 lA fA cB0 cB1 cB2 cB3 cB4 cB5 cB6 lB fB; obtain ⟨cB0, cB1, cB2, cB3, cB4, cB5, cB6⟩ := cells7 B3; have lB := B3.lt; have fB := fun k => B3.frozen k)
    | (go_at_call 10; (with_reducible refine (E2 _).mono ?_); rintro e v4 ⟨rfl, hB⟩; have A4 := A3.below hB A3.lt; have B4 := B3.below hB B3.lt; have hW4 := hW3.trans hB; clear A3 B3 hW3 hB E2; clear cB0 cB1 cB2 cB3 cB4 cB5 cB6 lB fB)
    | (go_at_call 19; (with_reducible refine (FX _).mono ?_); rintro e v5 ⟨rfl, hB⟩; have A5 := A4.below hB A4.lt; have B5 := B4.below hB B4.lt; have hW5 := hW4.trans hB; clear A4 B4 hW4 hB FX)
    )
  go_ret
  exact ⟨rfl, hW5⟩
set_option maxRecDepth 100000 in
set_option maxHeartbeats 4000000 in
theorem sides_yn (W : World) (a b p q : Rec) (ha : a.cut = p) (hb : b.cut = q) (hpf : p.Fits) (hqf : q.Fits) (hp : p.right = true) (hq : q.right = false) :
    Calls Try.prog 7 #[a.value, b.value] W fun e w' => e = .returned (.bool true) ∧ Below W.heap.size W w' := by
  have C1 := fun u => Cut_any a u
  have C2 := fun u => Cut_any b u
  rw [ha] at C1
  rw [hb] at C2
  have E1 := fun u => encY p hpf hp u
  have E2 := fun u => Encode_no q hqf hq u
  generalize p.sector = sec at E1
  clear ha hb hpf hqf hp hq
  have FX := fun u => fixed_any u
  unfold Rec.value at *
  have A0 := (Blk.new W 25 #[.int .u64 a.lsn, .int .u32 a.epoch, .int .i64 a.kind, .int .u64 a.ver, .int .u64 a.dl, .string a.id, .string a.val]).alloc (.cells #[.int .u64 b.lsn, .int .u32 b.epoch, .int .i64 b.kind, .int .u64 b.ver, .int .u64 b.dl, .string b.id, .string b.val] 25)
  have B0 := Blk.new (W.alloc (.cells #[.int .u64 a.lsn, .int .u32 a.epoch, .int .i64 a.kind, .int .u64 a.ver, .int .u64 a.dl, .string a.id, .string a.val] 25)) 25 #[.int .u64 b.lsn, .int .u32 b.epoch, .int .i64 b.kind, .int .u64 b.ver, .int .u64 b.dl, .string b.id, .string b.val]
  rw [show (W.alloc (.cells #[.int .u64 a.lsn, .int .u32 a.epoch, .int .i64 a.kind, .int .u64 a.ver, .int .u64 a.dl, .string a.id, .string a.val] 25)).heap.size = W.heap.size + 1 by simp] at B0
  have hW0 := ((Newer.refl W).alloc (.cells #[.int .u64 a.lsn, .int .u32 a.epoch, .int .i64 a.kind, .int .u64 a.ver, .int .u64 a.dl, .string a.id, .string a.val] 25)).alloc (.cells #[.int .u64 b.lsn, .int .u32 b.epoch, .int .i64 b.kind, .int .u64 b.ver, .int .u64 b.dl, .string b.id, .string b.val] 25)
  go_enter Try.func7, Try.ntmps7
  go_wp2_with (first
    | (go_at_call 9; (with_reducible refine (C1 _).mono ?_); rintro e v1 ⟨rfl, hB⟩; have A1 := A0.below hB A0.lt; have B1 := B0.below hB B0.lt; have hW1 := hW0.trans hB; clear A0 B0 hW0 hB C1; obtain ⟨cA0, cA1, cA2, cA3, cA4, cA5, cA6⟩ := cells7 A1; have lA := A1.lt; have fA := fun k => A1.frozen k; obtain ⟨cB0, cB1, cB2, cB3, cB4, cB5, cB6⟩ := cells7 B1; have lB := B1.lt; have fB := fun k => B1.frozen k)
    | (go_at_call 9; (with_reducible refine (C2 _).mono ?_); rintro e v2 ⟨rfl, hB⟩; obtain ⟨hS, hS2⟩ := set7N A1 hW1 (by simp) (.int .u64 p.lsn) (.int .u32 p.epoch) (.int .i64 p.kind) (.int .u64 p.ver) (.int .u64 p.dl) (.string p.id) (.string p.val); have A2 := hS.below hB hS.lt; have B2 := (far7 B1 (by simp) (.int .u64 p.lsn) (.int .u32 p.epoch) (.int .i64 p.kind) (.int .u64 p.ver) (.int .u64 p.dl) (.string p.id) (.string p.val)).below hB (far7 B1 (by simp) (.int .u64 p.lsn) (.int .u32 p.epoch) (.int .i64 p.kind) (.int .u64 p.ver) (.int .u64 p.dl) (.string p.id) (.string p.val)).lt; have hW2 := hS2.trans hB; clear hS hS2; clear A1 B1 hW1 hB C2; clear cA0 cA1 cA2 cA3 cA4 cA5 cA6 lA fA cB0 cB1 cB2 cB3 cB4 cB5 cB6 lB fB; obtain ⟨cA0, cA1, cA2, cA3, cA4, cA5, cA6⟩ := cells7 A2; have lA := A2.lt; have fA := fun k => A2.frozen k; obtain ⟨cB0, cB1, cB2, cB3, cB4, cB5, cB6⟩ := cells7 B2; have lB := B2.lt; have fB := fun k => B2.frozen k)
    | (go_at_call 10; (with_reducible refine (E1 _).mono ?_); rintro e v3 ⟨rfl, hB⟩; obtain ⟨hS, hS2⟩ := set7N B2 hW2 (by simp) (.int .u64 q.lsn) (.int .u32 q.epoch) (.int .i64 q.kind) (.int .u64 q.ver) (.int .u64 q.dl) (.string q.id) (.string q.val); have A3 := (far7 A2 (by simp) (.int .u64 q.lsn) (.int .u32 q.epoch) (.int .i64 q.kind) (.int .u64 q.ver) (.int .u64 q.dl) (.string q.id) (.string q.val)).below hB (far7 A2 (by simp) (.int .u64 q.lsn) (.int .u32 q.epoch) (.int .i64 q.kind) (.int .u64 q.ver) (.int .u64 q.dl) (.string q.id) (.string q.val)).lt; have B3 := hS.below hB hS.lt; have hW3 := hS2.trans hB; clear hS hS2; clear A2 B2 hW2 hB E1; clear cA0 cA1 cA2 cA3 cA4 cA5 cA6 lA fA cB0 cB1 cB2 cB3 cB4 cB5 cB6 lB fB; obtain ⟨cB0, cB1, cB2, cB3, cB4, cB5, cB6⟩ := cells7 B3; have lB := B3.lt; have fB := fun k => B3.frozen k)
    | (go_at_call 10; (with_reducible refine (E2 _).mono ?_); rintro e v4 ⟨rfl, hB⟩; have A4 := A3.below hB A3.lt; have B4 := B3.below hB B3.lt; have hW4 := hW3.trans hB; clear A3 B3 hW3 hB E2; clear cB0 cB1 cB2 cB3 cB4 cB5 cB6 lB fB)
    | (go_at_call 19; (with_reducible refine (FX _).mono ?_); rintro e v5 ⟨rfl, hB⟩; have A5 := A4.below hB A4.lt; have B5 := B4.below hB B4.lt; have hW5 := hW4.trans hB; clear A4 B4 hW4 hB FX)
    )
  go_ret
  exact ⟨rfl, hW5⟩
set_option maxRecDepth 100000 in
set_option maxHeartbeats 4000000 in
theorem sides_eq (W : World) (a b p : Rec) (ha : a.cut = p) (hb : b.cut = p) (hpf : p.Fits) (hp : p.right = true) :
    Calls Try.prog 7 #[a.value, b.value] W fun e w' => e = .returned (.bool true) ∧ Below W.heap.size W w' := by
  have C1 := fun u => Cut_any a u
  have C2 := fun u => Cut_any b u
  rw [ha] at C1
  rw [hb] at C2
  have E1 := fun u => encY p hpf hp u
  have E2 := fun u => encY p hpf hp u
  generalize p.sector = sec at E1 E2
  clear ha hb hpf hp
  have FX := fun u => fixed_any u
  unfold Rec.value at *
  have A0 := (Blk.new W 25 #[.int .u64 a.lsn, .int .u32 a.epoch, .int .i64 a.kind, .int .u64 a.ver, .int .u64 a.dl, .string a.id, .string a.val]).alloc (.cells #[.int .u64 b.lsn, .int .u32 b.epoch, .int .i64 b.kind, .int .u64 b.ver, .int .u64 b.dl, .string b.id, .string b.val] 25)
  have B0 := Blk.new (W.alloc (.cells #[.int .u64 a.lsn, .int .u32 a.epoch, .int .i64 a.kind, .int .u64 a.ver, .int .u64 a.dl, .string a.id, .string a.val] 25)) 25 #[.int .u64 b.lsn, .int .u32 b.epoch, .int .i64 b.kind, .int .u64 b.ver, .int .u64 b.dl, .string b.id, .string b.val]
  rw [show (W.alloc (.cells #[.int .u64 a.lsn, .int .u32 a.epoch, .int .i64 a.kind, .int .u64 a.ver, .int .u64 a.dl, .string a.id, .string a.val] 25)).heap.size = W.heap.size + 1 by simp] at B0
  have hW0 := ((Newer.refl W).alloc (.cells #[.int .u64 a.lsn, .int .u32 a.epoch, .int .i64 a.kind, .int .u64 a.ver, .int .u64 a.dl, .string a.id, .string a.val] 25)).alloc (.cells #[.int .u64 b.lsn, .int .u32 b.epoch, .int .i64 b.kind, .int .u64 b.ver, .int .u64 b.dl, .string b.id, .string b.val] 25)
  go_enter Try.func7, Try.ntmps7
  go_wp2_with (first
    | (go_at_call 9; (with_reducible refine (C1 _).mono ?_); rintro e v1 ⟨rfl, hB⟩; have A1 := A0.below hB A0.lt; have B1 := B0.below hB B0.lt; have hW1 := hW0.trans hB; clear A0 B0 hW0 hB C1; obtain ⟨cA0, cA1, cA2, cA3, cA4, cA5, cA6⟩ := cells7 A1; have lA := A1.lt; have fA := fun k => A1.frozen k; obtain ⟨cB0, cB1, cB2, cB3, cB4, cB5, cB6⟩ := cells7 B1; have lB := B1.lt; have fB := fun k => B1.frozen k)
    | (go_at_call 9; (with_reducible refine (C2 _).mono ?_); rintro e v2 ⟨rfl, hB⟩; obtain ⟨hS, hS2⟩ := set7N A1 hW1 (by simp) (.int .u64 p.lsn) (.int .u32 p.epoch) (.int .i64 p.kind) (.int .u64 p.ver) (.int .u64 p.dl) (.string p.id) (.string p.val); have A2 := hS.below hB hS.lt; have B2 := (far7 B1 (by simp) (.int .u64 p.lsn) (.int .u32 p.epoch) (.int .i64 p.kind) (.int .u64 p.ver) (.int .u64 p.dl) (.string p.id) (.string p.val)).below hB (far7 B1 (by simp) (.int .u64 p.lsn) (.int .u32 p.epoch) (.int .i64 p.kind) (.int .u64 p.ver) (.int .u64 p.dl) (.string p.id) (.string p.val)).lt; have hW2 := hS2.trans hB; clear hS hS2; clear A1 B1 hW1 hB C2; clear cA0 cA1 cA2 cA3 cA4 cA5 cA6 lA fA cB0 cB1 cB2 cB3 cB4 cB5 cB6 lB fB; obtain ⟨cA0, cA1, cA2, cA3, cA4, cA5, cA6⟩ := cells7 A2; have lA := A2.lt; have fA := fun k => A2.frozen k; obtain ⟨cB0, cB1, cB2, cB3, cB4, cB5, cB6⟩ := cells7 B2; have lB := B2.lt; have fB := fun k => B2.frozen k)
    | (go_at_call 10; (with_reducible refine (E1 _).mono ?_); rintro e v3 ⟨rfl, hB⟩; obtain ⟨hS, hS2⟩ := set7N B2 hW2 (by simp) (.int .u64 p.lsn) (.int .u32 p.epoch) (.int .i64 p.kind) (.int .u64 p.ver) (.int .u64 p.dl) (.string p.id) (.string p.val); have A3 := (far7 A2 (by simp) (.int .u64 p.lsn) (.int .u32 p.epoch) (.int .i64 p.kind) (.int .u64 p.ver) (.int .u64 p.dl) (.string p.id) (.string p.val)).below hB (far7 A2 (by simp) (.int .u64 p.lsn) (.int .u32 p.epoch) (.int .i64 p.kind) (.int .u64 p.ver) (.int .u64 p.dl) (.string p.id) (.string p.val)).lt; have B3 := hS.below hB hS.lt; have hW3 := hS2.trans hB; clear hS hS2; clear A2 B2 hW2 hB E1; clear cA0 cA1 cA2 cA3 cA4 cA5 cA6 lA fA cB0 cB1 cB2 cB3 cB4 cB5 cB6 lB fB; obtain ⟨cA0, cA1, cA2, cA3, cA4, cA5, cA6⟩ := cells7 A3; have lA := A3.lt; have fA := fun k => A3.frozen k; obtain ⟨cB0, cB1, cB2, cB3, cB4, cB5, cB6⟩ := cells7 B3; have lB := B3.lt; have fB := fun k => B3.frozen k)
    | (go_at_call 10; (with_reducible refine (E2 _).mono ?_); rintro e v4 ⟨rfl, hB⟩; have A4 := A3.below hB A3.lt; have B4 := B3.below hB B3.lt; have hW4 := hW3.trans hB; clear A3 B3 hW3 hB E2; clear cA0 cA1 cA2 cA3 cA4 cA5 cA6 lA fA cB0 cB1 cB2 cB3 cB4 cB5 cB6 lB fB; obtain ⟨cA0, cA1, cA2, cA3, cA4, cA5, cA6⟩ := cells7 A4; have lA := A4.lt; have fA := fun k => A4.frozen k; obtain ⟨cB0, cB1, cB2, cB3, cB4, cB5, cB6⟩ := cells7 B4; have lB := B4.lt; have fB := fun k => B4.frozen k)
    | (go_at_call 19; (with_reducible refine (FX _).mono ?_); rintro e v5 ⟨rfl, hB⟩; have A5 := A4.below hB A4.lt; have B5 := B4.below hB B4.lt; have hW5 := hW4.trans hB; clear A4 B4 hW4 hB FX; clear cA0 cA1 cA2 cA3 cA4 cA5 cA6 lA fA cB0 cB1 cB2 cB3 cB4 cB5 cB6 lB fB)
    )
  go_ret
  exact ⟨rfl, hW5⟩
set_option maxRecDepth 100000 in
set_option maxHeartbeats 4000000 in
theorem sides_ne (W : World) (a b p q : Rec) (ha : a.cut = p) (hb : b.cut = q) (hpf : p.Fits) (hqf : q.Fits) (hp : p.right = true) (hq : q.right = true) (hne : p ≠ q) :
    Calls Try.prog 7 #[a.value, b.value] W fun e w' => e = .returned (.bool true) ∧ Below W.heap.size W w' := by
  have C1 := fun u => Cut_any a u
  have C2 := fun u => Cut_any b u
  rw [ha] at C1
  rw [hb] at C2
  have E1 := fun u => encY p hpf hp u
  have E2 := fun u => encY q hqf hq u
  have hs : (p.sector.toList == q.sector.toList) = false := bytes_ne (fun h => hne (sector_inj hp hpf hq hqf h))
  generalize p.sector = sec at E1 hs
  generalize q.sector = sec2 at E2 hs
  clear ha hb hpf hqf hp hq
  have FX := fun u => fixed_any u
  unfold Rec.value at *
  have A0 := (Blk.new W 25 #[.int .u64 a.lsn, .int .u32 a.epoch, .int .i64 a.kind, .int .u64 a.ver, .int .u64 a.dl, .string a.id, .string a.val]).alloc (.cells #[.int .u64 b.lsn, .int .u32 b.epoch, .int .i64 b.kind, .int .u64 b.ver, .int .u64 b.dl, .string b.id, .string b.val] 25)
  have B0 := Blk.new (W.alloc (.cells #[.int .u64 a.lsn, .int .u32 a.epoch, .int .i64 a.kind, .int .u64 a.ver, .int .u64 a.dl, .string a.id, .string a.val] 25)) 25 #[.int .u64 b.lsn, .int .u32 b.epoch, .int .i64 b.kind, .int .u64 b.ver, .int .u64 b.dl, .string b.id, .string b.val]
  rw [show (W.alloc (.cells #[.int .u64 a.lsn, .int .u32 a.epoch, .int .i64 a.kind, .int .u64 a.ver, .int .u64 a.dl, .string a.id, .string a.val] 25)).heap.size = W.heap.size + 1 by simp] at B0
  have hW0 := ((Newer.refl W).alloc (.cells #[.int .u64 a.lsn, .int .u32 a.epoch, .int .i64 a.kind, .int .u64 a.ver, .int .u64 a.dl, .string a.id, .string a.val] 25)).alloc (.cells #[.int .u64 b.lsn, .int .u32 b.epoch, .int .i64 b.kind, .int .u64 b.ver, .int .u64 b.dl, .string b.id, .string b.val] 25)
  go_enter Try.func7, Try.ntmps7
  go_wp2_with (first
    | (go_at_call 9; (with_reducible refine (C1 _).mono ?_); rintro e v1 ⟨rfl, hB⟩; have A1 := A0.below hB A0.lt; have B1 := B0.below hB B0.lt; have hW1 := hW0.trans hB; clear A0 B0 hW0 hB C1; obtain ⟨cA0, cA1, cA2, cA3, cA4, cA5, cA6⟩ := cells7 A1; have lA := A1.lt; have fA := fun k => A1.frozen k; obtain ⟨cB0, cB1, cB2, cB3, cB4, cB5, cB6⟩ := cells7 B1; have lB := B1.lt; have fB := fun k => B1.frozen k)
    | (go_at_call 9; (with_reducible refine (C2 _).mono ?_); rintro e v2 ⟨rfl, hB⟩; obtain ⟨hS, hS2⟩ := set7N A1 hW1 (by simp) (.int .u64 p.lsn) (.int .u32 p.epoch) (.int .i64 p.kind) (.int .u64 p.ver) (.int .u64 p.dl) (.string p.id) (.string p.val); have A2 := hS.below hB hS.lt; have B2 := (far7 B1 (by simp) (.int .u64 p.lsn) (.int .u32 p.epoch) (.int .i64 p.kind) (.int .u64 p.ver) (.int .u64 p.dl) (.string p.id) (.string p.val)).below hB (far7 B1 (by simp) (.int .u64 p.lsn) (.int .u32 p.epoch) (.int .i64 p.kind) (.int .u64 p.ver) (.int .u64 p.dl) (.string p.id) (.string p.val)).lt; have hW2 := hS2.trans hB; clear hS hS2; clear A1 B1 hW1 hB C2; clear cA0 cA1 cA2 cA3 cA4 cA5 cA6 lA fA cB0 cB1 cB2 cB3 cB4 cB5 cB6 lB fB; obtain ⟨cA0, cA1, cA2, cA3, cA4, cA5, cA6⟩ := cells7 A2; have lA := A2.lt; have fA := fun k => A2.frozen k; obtain ⟨cB0, cB1, cB2, cB3, cB4, cB5, cB6⟩ := cells7 B2; have lB := B2.lt; have fB := fun k => B2.frozen k)
    | (go_at_call 10; (with_reducible refine (E1 _).mono ?_); rintro e v3 ⟨rfl, hB⟩; obtain ⟨hS, hS2⟩ := set7N B2 hW2 (by simp) (.int .u64 q.lsn) (.int .u32 q.epoch) (.int .i64 q.kind) (.int .u64 q.ver) (.int .u64 q.dl) (.string q.id) (.string q.val); have A3 := (far7 A2 (by simp) (.int .u64 q.lsn) (.int .u32 q.epoch) (.int .i64 q.kind) (.int .u64 q.ver) (.int .u64 q.dl) (.string q.id) (.string q.val)).below hB (far7 A2 (by simp) (.int .u64 q.lsn) (.int .u32 q.epoch) (.int .i64 q.kind) (.int .u64 q.ver) (.int .u64 q.dl) (.string q.id) (.string q.val)).lt; have B3 := hS.below hB hS.lt; have hW3 := hS2.trans hB; clear hS hS2; clear A2 B2 hW2 hB E1; clear cA0 cA1 cA2 cA3 cA4 cA5 cA6 lA fA cB0 cB1 cB2 cB3 cB4 cB5 cB6 lB fB; obtain ⟨cA0, cA1, cA2, cA3, cA4, cA5, cA6⟩ := cells7 A3; have lA := A3.lt; have fA := fun k => A3.frozen k; obtain ⟨cB0, cB1, cB2, cB3, cB4, cB5, cB6⟩ := cells7 B3; have lB := B3.lt; have fB := fun k => B3.frozen k)
    | (go_at_call 10; (with_reducible refine (E2 _).mono ?_); rintro e v4 ⟨rfl, hB⟩; have A4 := A3.below hB A3.lt; have B4 := B3.below hB B3.lt; have hW4 := hW3.trans hB; clear A3 B3 hW3 hB E2; clear cA0 cA1 cA2 cA3 cA4 cA5 cA6 lA fA cB0 cB1 cB2 cB3 cB4 cB5 cB6 lB fB; obtain ⟨cA0, cA1, cA2, cA3, cA4, cA5, cA6⟩ := cells7 A4; have lA := A4.lt; have fA := fun k => A4.frozen k; obtain ⟨cB0, cB1, cB2, cB3, cB4, cB5, cB6⟩ := cells7 B4; have lB := B4.lt; have fB := fun k => B4.frozen k)
    | (go_at_call 19; (with_reducible refine (FX _).mono ?_); rintro e v5 ⟨rfl, hB⟩; have A5 := A4.below hB A4.lt; have B5 := B4.below hB B4.lt; have hW5 := hW4.trans hB; clear A4 B4 hW4 hB FX; clear cA0 cA1 cA2 cA3 cA4 cA5 cA6 lA fA cB0 cB1 cB2 cB3 cB4 cB5 cB6 lB fB)
    )
  all_goals first
    | exact (hne (rec_eq (by assumption) (by assumption) (by assumption) (by assumption) (by assumption) (by assumption) (by assumption))).elim
    | (go_ret; exact ⟨rfl, hW5⟩)
theorem walkRecordSides (W : World) (a : Rec) (ha : a.Fits) (b : Rec) (hb : b.Fits) :
    Calls Try.prog 7 #[a.value, b.value] W fun e w' => e = .returned (.bool true) ∧ Below W.heap.size W w' := by
  have haf := Rec.cut_fits ha
  have hbf := Rec.cut_fits hb
  cases hp : a.cut.right with
  | false => exact sides_n W a b _ _ rfl rfl haf hbf hp
  | true =>
    cases hq : b.cut.right with
    | false => exact sides_yn W a b _ _ rfl rfl haf hbf hp hq
    | true =>
      by_cases h : a.cut = b.cut
      · exact sides_eq W a b _ rfl h.symm haf hp
      · exact sides_ne W a b _ _ rfl rfl haf hbf hp hq h
end Go.Proofs.Ytoofmklghllliaa
