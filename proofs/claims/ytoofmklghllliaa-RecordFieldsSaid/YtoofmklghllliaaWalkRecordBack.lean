/- The walk of the law RecordBack. -/
import Derived.Test.YtoofmklghllliaaFixed06
namespace Go.Proofs.Ytoofmklghllliaa
set_option linter.unusedSimpArgs false
set_option linter.unusedVariables false
open Go.RowKit
attribute [local go_sem high] run_mx run_mn

theorem encY (r : Rec) (hr : r.Fits) (h : r.right = true) (u : World) : Calls Try.prog 10 #[r.value] u fun e v => e = .returned (.tuple #[.string r.sector, .int .i64 0]) ∧ Below u.heap.size u v := Encode_yes r hr h u
theorem rightY (r : Rec) (hr : r.Fits) {b : Bool} (h : r.right = b) (u : World) : Calls Try.prog 17 #[r.value] u fun e v => e = .returned (.bool b) ∧ Below u.heap.size u v := h ▸ Right_any r hr u
theorem decY {s : ByteArray} {r : Rec} (h : decR s = some r) (u : World) : Calls Try.prog 13 #[.string s] u fun e v => e = .returned (.tuple #[r.value, .int .i64 0]) ∧ Below u.heap.size u v := by
  have := Decode_any s u
  unfold decV at this; rw [h] at this; exact this
theorem decN {s : ByteArray} (h : decR s = none) (u : World) : Calls Try.prog 13 #[.string s] u fun e v => e = .returned (.tuple #[.agg #[.int .u64 0, .int .u32 0, .int .i64 0, .int .u64 0, .int .u64 0, .string ⟨#[]⟩, .string ⟨#[]⟩], .int .i64 5]) ∧ Below u.heap.size u v := by
  have := Decode_any s u
  unfold decV at this; rw [h] at this; exact this
theorem nextY {s : ByteArray} {l ep : Int} {r : Rec} (h : nextR s l ep = some r) (u : World) : Calls Try.prog 15 #[.string s, .int .u64 l, .int .u32 ep] u fun e v => e = .returned (.tuple #[r.value, .bool true]) ∧ Below u.heap.size u v := by
  have := Next_any s l ep u
  unfold nextV at this; rw [h] at this; exact this
theorem nextN {s : ByteArray} {l ep : Int} (h : nextR s l ep = none) (u : World) : Calls Try.prog 15 #[.string s, .int .u64 l, .int .u32 ep] u fun e v => e = .returned (.tuple #[.agg #[.int .u64 0, .int .u32 0, .int .i64 0, .int .u64 0, .int .u64 0, .string ⟨#[]⟩, .string ⟨#[]⟩], .bool false]) ∧ Below u.heap.size u v := by
  have := Next_any s l ep u
  unfold nextV at this; rw [h] at this; exact this
theorem nextR_sector {r : Rec} (hr : r.right = true) (hf : r.Fits) (l ep : Int) : nextR r.sector l ep = if r.lsn = l ∧ r.epoch = ep then some r else none := by
  unfold nextR; rw [decR_sector r hr hf]
theorem next_lsn {n : Int} (h : 0 ≤ n ∧ n < 18446744073709551616) : n ≠ (n + 1) % 18446744073709551616 := by omega
set_option maxRecDepth 100000 in
set_option maxHeartbeats 4000000 in
theorem back_nn (W : World) (r : Rec) (q : Rec) (hc : r.cut = q) (hcf : q.Fits) (hq : q.right = false) (s : ByteArray) (hz : decR (cut130 s) = none) :
    Calls Try.prog 4 #[r.value, .string s] W fun e w' => e = .returned (.bool true) ∧ Below W.heap.size W w' := by
  have m1 : (0 : Int) ≤ mn (s.size : Int) 130 := by rw [mn_def]; omega
  have m2 : mn (s.size : Int) 130 ≤ (s.size : Int) := by rw [mn_def]; omega
  have m3 : (0 : Int) ≤ min (s.size : Int) 130 := by omega
  have m4 : min (s.size : Int) 130 ≤ (s.size : Int) := by omega
  have ht : s.extract 0 (min (s.size : Int) 130).toNat = cut130 s := by unfold cut130; rw [show (min (s.size : Int) 130).toNat = min s.size 130 by omega]
  generalize cut130 s = t at hz ht
  have C1 := fun u => Cut_any r u
  rw [hc] at C1
  have G1 := fun u => rightY q hcf hq u
  have E1 := fun u => Encode_no q hcf hq u
  have D2 := fun u => decN hz u
  clear hz
  have FX := fun u => fixed_any u
  clear hcf hq hc
  unfold Rec.value at *
  have A0 := Blk.new W 25 #[.int .u64 r.lsn, .int .u32 r.epoch, .int .i64 r.kind, .int .u64 r.ver, .int .u64 r.dl, .string r.id, .string r.val]
  have hW0 := (Newer.refl W).alloc (.cells #[.int .u64 r.lsn, .int .u32 r.epoch, .int .i64 r.kind, .int .u64 r.ver, .int .u64 r.dl, .string r.id, .string r.val] 25)
  go_enter Try.func4, Try.ntmps4
  go_wp2_with (first
    | (go_at_call 9; (with_reducible refine (C1 _).mono ?_); rintro e v1 ⟨rfl, hB⟩; have A1 := A0.below hB A0.lt; have hW1 := hW0.trans hB; clear A0 hW0 hB C1; obtain ⟨cA0, cA1, cA2, cA3, cA4, cA5, cA6⟩ := cells7 A1; have lA := A1.lt; have fA := fun k => A1.frozen k)
    | (go_at_call 10; (with_reducible refine (E1 _).mono ?_); rintro e v2 ⟨rfl, hB⟩; obtain ⟨hS, hS2⟩ := set7N A1 hW1 (by simp) (.int .u64 q.lsn) (.int .u32 q.epoch) (.int .i64 q.kind) (.int .u64 q.ver) (.int .u64 q.dl) (.string q.id) (.string q.val); have A2 := hS.below hB hS.lt; have hW2 := hS2.trans hB; clear hS hS2; clear A1 hW1 hB E1; clear cA0 cA1 cA2 cA3 cA4 cA5 cA6 lA fA; obtain ⟨cA0, cA1, cA2, cA3, cA4, cA5, cA6⟩ := cells7 A2; have lA := A2.lt; have fA := fun k => A2.frozen k)
    | (go_at_call 17; (with_reducible refine (G1 _).mono ?_); rintro e v3 ⟨rfl, hB⟩; have A3 := A2.below hB A2.lt; have hW3 := hW2.trans hB; clear A2 hW2 hB G1; clear cA0 cA1 cA2 cA3 cA4 cA5 cA6 lA fA)
    | (go_at_call 13; (with_reducible refine (D2 _).mono ?_); rintro e v4 ⟨rfl, hB⟩; have A4 := A3.below hB A3.lt; have hW4 := hW3.trans hB; clear A3 hW3 hB D2)
    | (go_at_call 19; (with_reducible refine (FX _).mono ?_); rintro e v5 ⟨rfl, hB⟩; have A5 := A4.on _ hB; have hW5 := (hW4.alloc _).trans hB; have Z5 := (Blk.new v4 25 #[.int .u64 0, .int .u32 0, .int .i64 0, .int .u64 0, .int .u64 0, .string ⟨#[]⟩, .string ⟨#[]⟩]).below hB (Blk.new v4 25 #[.int .u64 0, .int .u32 0, .int .i64 0, .int .u64 0, .int .u64 0, .string ⟨#[]⟩, .string ⟨#[]⟩]).lt; clear A4 hW4 hB FX)
    )
  go_ret
  exact ⟨rfl, hW5⟩
set_option maxRecDepth 100000 in
set_option maxHeartbeats 4000000 in
theorem back_ny (W : World) (r : Rec) (q : Rec) (hc : r.cut = q) (hcf : q.Fits) (hq : q.right = false) (s : ByteArray) (z : Rec) (hz : decR (cut130 s) = some z) :
    Calls Try.prog 4 #[r.value, .string s] W fun e w' => e = .returned (.bool true) ∧ Below W.heap.size W w' := by
  have m1 : (0 : Int) ≤ mn (s.size : Int) 130 := by rw [mn_def]; omega
  have m2 : mn (s.size : Int) 130 ≤ (s.size : Int) := by rw [mn_def]; omega
  have m3 : (0 : Int) ≤ min (s.size : Int) 130 := by omega
  have m4 : min (s.size : Int) 130 ≤ (s.size : Int) := by omega
  have ht : s.extract 0 (min (s.size : Int) 130).toNat = cut130 s := by unfold cut130; rw [show (min (s.size : Int) 130).toNat = min s.size 130 by omega]
  generalize cut130 s = t at hz ht
  have C1 := fun u => Cut_any r u
  rw [hc] at C1
  have G1 := fun u => rightY q hcf hq u
  have E1 := fun u => Encode_no q hcf hq u
  obtain ⟨_, hzr, hzs, hzf⟩ := decR_some hz
  have D2 := fun u => decY hz u
  have E2 := fun u => encY z hzf hzr u
  rw [hzs] at E2
  have G2 := fun u => rightY z hzf hzr u
  clear hzr hzs hzf hz
  have FX := fun u => fixed_any u
  clear hcf hq hc
  unfold Rec.value at *
  have A0 := Blk.new W 25 #[.int .u64 r.lsn, .int .u32 r.epoch, .int .i64 r.kind, .int .u64 r.ver, .int .u64 r.dl, .string r.id, .string r.val]
  have hW0 := (Newer.refl W).alloc (.cells #[.int .u64 r.lsn, .int .u32 r.epoch, .int .i64 r.kind, .int .u64 r.ver, .int .u64 r.dl, .string r.id, .string r.val] 25)
  go_enter Try.func4, Try.ntmps4
  go_wp2_with (first
    | (go_at_call 9; (with_reducible refine (C1 _).mono ?_); rintro e v1 ⟨rfl, hB⟩; have A1 := A0.below hB A0.lt; have hW1 := hW0.trans hB; clear A0 hW0 hB C1; obtain ⟨cA0, cA1, cA2, cA3, cA4, cA5, cA6⟩ := cells7 A1; have lA := A1.lt; have fA := fun k => A1.frozen k)
    | (go_at_call 10; (with_reducible refine (E1 _).mono ?_); rintro e v2 ⟨rfl, hB⟩; obtain ⟨hS, hS2⟩ := set7N A1 hW1 (by simp) (.int .u64 q.lsn) (.int .u32 q.epoch) (.int .i64 q.kind) (.int .u64 q.ver) (.int .u64 q.dl) (.string q.id) (.string q.val); have A2 := hS.below hB hS.lt; have hW2 := hS2.trans hB; clear hS hS2; clear A1 hW1 hB E1; clear cA0 cA1 cA2 cA3 cA4 cA5 cA6 lA fA; obtain ⟨cA0, cA1, cA2, cA3, cA4, cA5, cA6⟩ := cells7 A2; have lA := A2.lt; have fA := fun k => A2.frozen k)
    | (go_at_call 17; (with_reducible refine (G1 _).mono ?_); rintro e v3 ⟨rfl, hB⟩; have A3 := A2.below hB A2.lt; have hW3 := hW2.trans hB; clear A2 hW2 hB G1; clear cA0 cA1 cA2 cA3 cA4 cA5 cA6 lA fA)
    | (go_at_call 13; (with_reducible refine (D2 _).mono ?_); rintro e v4 ⟨rfl, hB⟩; have A4 := A3.below hB A3.lt; have hW4 := hW3.trans hB; clear A3 hW3 hB D2)
    | (go_at_call 10; (with_reducible refine (E2 _).mono ?_); rintro e v5 ⟨rfl, hB⟩; have A5 := A4.on _ hB; have hW5 := (hW4.alloc _).trans hB; have Z5 := (Blk.new v4 25 #[.int .u64 z.lsn, .int .u32 z.epoch, .int .i64 z.kind, .int .u64 z.ver, .int .u64 z.dl, .string z.id, .string z.val]).below hB (Blk.new v4 25 #[.int .u64 z.lsn, .int .u32 z.epoch, .int .i64 z.kind, .int .u64 z.ver, .int .u64 z.dl, .string z.id, .string z.val]).lt; clear A4 hW4 hB E2; obtain ⟨cZ0, cZ1, cZ2, cZ3, cZ4, cZ5, cZ6⟩ := cells7 Z5; have lZ := Z5.lt; have fZ := fun k => Z5.frozen k)
    | (go_at_call 17; (with_reducible refine (G2 _).mono ?_); rintro e v6 ⟨rfl, hB⟩; have A6 := A5.below hB A5.lt; have Z6 := Z5.below hB Z5.lt; have hW6 := hW5.trans hB; clear A5 Z5 hW5 hB G2; clear cZ0 cZ1 cZ2 cZ3 cZ4 cZ5 cZ6 lZ fZ)
    | (go_at_call 19; (with_reducible refine (FX _).mono ?_); rintro e v7 ⟨rfl, hB⟩; have A7 := A6.below hB A6.lt; have Z7 := Z6.below hB Z6.lt; have hW7 := hW6.trans hB; clear A6 Z6 hW6 hB FX)
    )
  go_ret
  exact ⟨rfl, hW7⟩
set_option maxRecDepth 100000 in
set_option maxHeartbeats 4000000 in
theorem back_yn (W : World) (r : Rec) (q : Rec) (hc : r.cut = q) (hcf : q.Fits) (hq : q.right = true) (s : ByteArray) (hz : decR (cut130 s) = none) :
    Calls Try.prog 4 #[r.value, .string s] W fun e w' => e = .returned (.bool true) ∧ Below W.heap.size W w' := by
  have m1 : (0 : Int) ≤ mn (s.size : Int) 130 := by rw [mn_def]; omega
  have m2 : mn (s.size : Int) 130 ≤ (s.size : Int) := by rw [mn_def]; omega
  have m3 : (0 : Int) ≤ min (s.size : Int) 130 := by omega
  have m4 : min (s.size : Int) 130 ≤ (s.size : Int) := by omega
  have ht : s.extract 0 (min (s.size : Int) 130).toNat = cut130 s := by unfold cut130; rw [show (min (s.size : Int) 130).toNat = min s.size 130 by omega]
  generalize cut130 s = t at hz ht
  have C1 := fun u => Cut_any r u
  rw [hc] at C1
  have G1 := fun u => rightY q hcf hq u
  have E1 := fun u => encY q hcf hq u
  have D1 := fun u => decY (decR_sector q hq hcf) u
  have hl1 := next_lsn hcf.lsn
  obtain ⟨l1, hl2⟩ : ∃ l1, (q.lsn + 1) % 18446744073709551616 = l1 := ⟨_, rfl⟩
  have hl3 : IntKind.u64.wrap (q.lsn + 1) = l1 := by rw [IntKind.wrap_u64]; exact hl2
  rw [hl2] at hl1
  have N1 := fun u => nextY (s := q.sector) (l := q.lsn) (ep := q.epoch) (r := q) (by rw [nextR_sector hq hcf, if_pos ⟨rfl, rfl⟩]) u
  have N2 := fun u => nextN (s := q.sector) (l := l1) (ep := q.epoch) (by rw [nextR_sector hq hcf, if_neg (fun h => hl1 h.1)]) u
  have hsz : (q.sector.size : Int) = 128 := by have := Rec.sector_size hq; omega
  generalize q.sector = sec at *
  have D2 := fun u => decN hz u
  clear hz
  have FX := fun u => fixed_any u
  clear hcf hq hc
  unfold Rec.value at *
  have A0 := Blk.new W 25 #[.int .u64 r.lsn, .int .u32 r.epoch, .int .i64 r.kind, .int .u64 r.ver, .int .u64 r.dl, .string r.id, .string r.val]
  have hW0 := (Newer.refl W).alloc (.cells #[.int .u64 r.lsn, .int .u32 r.epoch, .int .i64 r.kind, .int .u64 r.ver, .int .u64 r.dl, .string r.id, .string r.val] 25)
  go_enter Try.func4, Try.ntmps4
  go_wp2_with (first
    | (go_at_call 9; (with_reducible refine (C1 _).mono ?_); rintro e v1 ⟨rfl, hB⟩; have A1 := A0.below hB A0.lt; have hW1 := hW0.trans hB; clear A0 hW0 hB C1; obtain ⟨cA0, cA1, cA2, cA3, cA4, cA5, cA6⟩ := cells7 A1; have lA := A1.lt; have fA := fun k => A1.frozen k)
    | (go_at_call 10; (with_reducible refine (E1 _).mono ?_); rintro e v2 ⟨rfl, hB⟩; obtain ⟨hS, hS2⟩ := set7N A1 hW1 (by simp) (.int .u64 q.lsn) (.int .u32 q.epoch) (.int .i64 q.kind) (.int .u64 q.ver) (.int .u64 q.dl) (.string q.id) (.string q.val); have A2 := hS.below hB hS.lt; have hW2 := hS2.trans hB; clear hS hS2; clear A1 hW1 hB E1; clear cA0 cA1 cA2 cA3 cA4 cA5 cA6 lA fA; obtain ⟨cA0, cA1, cA2, cA3, cA4, cA5, cA6⟩ := cells7 A2; have lA := A2.lt; have fA := fun k => A2.frozen k)
    | (go_at_call 17; (with_reducible refine (G1 _).mono ?_); rintro e v3 ⟨rfl, hB⟩; have A3 := A2.below hB A2.lt; have hW3 := hW2.trans hB; clear A2 hW2 hB G1; clear cA0 cA1 cA2 cA3 cA4 cA5 cA6 lA fA)
    | (go_at_call 13; (with_reducible refine (D1 _).mono ?_); rintro e v4 ⟨rfl, hB⟩; have A4 := A3.below hB A3.lt; have hW4 := hW3.trans hB; clear A3 hW3 hB D1; obtain ⟨cA0, cA1, cA2, cA3, cA4, cA5, cA6⟩ := cells7 A4; have lA := A4.lt; have fA := fun k => A4.frozen k)
    | (go_at_call 15; (with_reducible refine (N1 _).mono ?_); rintro e v5 ⟨rfl, hB⟩; have A5 := A4.on _ hB; have hW5 := (hW4.alloc _).trans hB; have X5 := (Blk.new v4 25 #[.int .u64 q.lsn, .int .u32 q.epoch, .int .i64 q.kind, .int .u64 q.ver, .int .u64 q.dl, .string q.id, .string q.val]).below hB (Blk.new v4 25 #[.int .u64 q.lsn, .int .u32 q.epoch, .int .i64 q.kind, .int .u64 q.ver, .int .u64 q.dl, .string q.id, .string q.val]).lt; clear A4 hW4 hB N1; clear cA0 cA1 cA2 cA3 cA4 cA5 cA6 lA fA; obtain ⟨cA0, cA1, cA2, cA3, cA4, cA5, cA6⟩ := cells7 A5; have lA := A5.lt; have fA := fun k => A5.frozen k)
    | (go_at_call 15; (with_reducible refine (N2 _).mono ?_); rintro e v6 ⟨rfl, hB⟩; have A6 := A5.on _ hB; have X6 := X5.on _ hB; have hW6 := (hW5.alloc _).trans hB; have Y6 := (Blk.new v5 25 #[.int .u64 q.lsn, .int .u32 q.epoch, .int .i64 q.kind, .int .u64 q.ver, .int .u64 q.dl, .string q.id, .string q.val]).below hB (Blk.new v5 25 #[.int .u64 q.lsn, .int .u32 q.epoch, .int .i64 q.kind, .int .u64 q.ver, .int .u64 q.dl, .string q.id, .string q.val]).lt; clear A5 X5 hW5 hB N2; clear cA0 cA1 cA2 cA3 cA4 cA5 cA6 lA fA; obtain ⟨cA0, cA1, cA2, cA3, cA4, cA5, cA6⟩ := cells7 A6; have lA := A6.lt; have fA := fun k => A6.frozen k; obtain ⟨cX0, cX1, cX2, cX3, cX4, cX5, cX6⟩ := cells7 X6; have lX := X6.lt; have fX := fun k => X6.frozen k; obtain ⟨cY0, cY1, cY2, cY3, cY4, cY5, cY6⟩ := cells7 Y6; have lY := Y6.lt; have fY := fun k => Y6.frozen k)
    | (go_at_call 13; (with_reducible refine (D2 _).mono ?_); rintro e v7 ⟨rfl, hB⟩; have A7 := A6.on _ hB; have X7 := X6.on _ hB; have Y7 := Y6.on _ hB; have hW7 := (hW6.alloc _).trans hB; have U7 := (Blk.new v6 25 #[.int .u64 0, .int .u32 0, .int .i64 0, .int .u64 0, .int .u64 0, .string ⟨#[]⟩, .string ⟨#[]⟩]).below hB (Blk.new v6 25 #[.int .u64 0, .int .u32 0, .int .i64 0, .int .u64 0, .int .u64 0, .string ⟨#[]⟩, .string ⟨#[]⟩]).lt; clear A6 X6 Y6 hW6 hB D2; clear cA0 cA1 cA2 cA3 cA4 cA5 cA6 lA fA cX0 cX1 cX2 cX3 cX4 cX5 cX6 lX fX cY0 cY1 cY2 cY3 cY4 cY5 cY6 lY fY)
    | (go_at_call 19; (with_reducible refine (FX _).mono ?_); rintro e v8 ⟨rfl, hB⟩; have A8 := A7.on _ hB; have X8 := X7.on _ hB; have Y8 := Y7.on _ hB; have U8 := U7.on _ hB; have hW8 := (hW7.alloc _).trans hB; have Z8 := (Blk.new v7 25 #[.int .u64 0, .int .u32 0, .int .i64 0, .int .u64 0, .int .u64 0, .string ⟨#[]⟩, .string ⟨#[]⟩]).below hB (Blk.new v7 25 #[.int .u64 0, .int .u32 0, .int .i64 0, .int .u64 0, .int .u64 0, .string ⟨#[]⟩, .string ⟨#[]⟩]).lt; clear A7 X7 Y7 U7 hW7 hB FX)
    )
  go_ret
  exact ⟨rfl, hW8⟩
set_option maxRecDepth 100000 in
set_option maxHeartbeats 4000000 in
theorem back_yy (W : World) (r : Rec) (q : Rec) (hc : r.cut = q) (hcf : q.Fits) (hq : q.right = true) (s : ByteArray) (z : Rec) (hz : decR (cut130 s) = some z) :
    Calls Try.prog 4 #[r.value, .string s] W fun e w' => e = .returned (.bool true) ∧ Below W.heap.size W w' := by
  have m1 : (0 : Int) ≤ mn (s.size : Int) 130 := by rw [mn_def]; omega
  have m2 : mn (s.size : Int) 130 ≤ (s.size : Int) := by rw [mn_def]; omega
  have m3 : (0 : Int) ≤ min (s.size : Int) 130 := by omega
  have m4 : min (s.size : Int) 130 ≤ (s.size : Int) := by omega
  have ht : s.extract 0 (min (s.size : Int) 130).toNat = cut130 s := by unfold cut130; rw [show (min (s.size : Int) 130).toNat = min s.size 130 by omega]
  generalize cut130 s = t at hz ht
  have C1 := fun u => Cut_any r u
  rw [hc] at C1
  have G1 := fun u => rightY q hcf hq u
  have E1 := fun u => encY q hcf hq u
  have D1 := fun u => decY (decR_sector q hq hcf) u
  have hl1 := next_lsn hcf.lsn
  obtain ⟨l1, hl2⟩ : ∃ l1, (q.lsn + 1) % 18446744073709551616 = l1 := ⟨_, rfl⟩
  have hl3 : IntKind.u64.wrap (q.lsn + 1) = l1 := by rw [IntKind.wrap_u64]; exact hl2
  rw [hl2] at hl1
  have N1 := fun u => nextY (s := q.sector) (l := q.lsn) (ep := q.epoch) (r := q) (by rw [nextR_sector hq hcf, if_pos ⟨rfl, rfl⟩]) u
  have N2 := fun u => nextN (s := q.sector) (l := l1) (ep := q.epoch) (by rw [nextR_sector hq hcf, if_neg (fun h => hl1 h.1)]) u
  have hsz : (q.sector.size : Int) = 128 := by have := Rec.sector_size hq; omega
  generalize q.sector = sec at *
  obtain ⟨_, hzr, hzs, hzf⟩ := decR_some hz
  have D2 := fun u => decY hz u
  have E2 := fun u => encY z hzf hzr u
  rw [hzs] at E2
  have G2 := fun u => rightY z hzf hzr u
  clear hzr hzs hzf hz
  have FX := fun u => fixed_any u
  clear hcf hq hc
  unfold Rec.value at *
  have A0 := Blk.new W 25 #[.int .u64 r.lsn, .int .u32 r.epoch, .int .i64 r.kind, .int .u64 r.ver, .int .u64 r.dl, .string r.id, .string r.val]
  have hW0 := (Newer.refl W).alloc (.cells #[.int .u64 r.lsn, .int .u32 r.epoch, .int .i64 r.kind, .int .u64 r.ver, .int .u64 r.dl, .string r.id, .string r.val] 25)
  go_enter Try.func4, Try.ntmps4
  go_wp2_with (first
    | (go_at_call 9; (with_reducible refine (C1 _).mono ?_); rintro e v1 ⟨rfl, hB⟩; have A1 := A0.below hB A0.lt; have hW1 := hW0.trans hB; clear A0 hW0 hB C1; obtain ⟨cA0, cA1, cA2, cA3, cA4, cA5, cA6⟩ := cells7 A1; have lA := A1.lt; have fA := fun k => A1.frozen k)
    | (go_at_call 10; (with_reducible refine (E1 _).mono ?_); rintro e v2 ⟨rfl, hB⟩; obtain ⟨hS, hS2⟩ := set7N A1 hW1 (by simp) (.int .u64 q.lsn) (.int .u32 q.epoch) (.int .i64 q.kind) (.int .u64 q.ver) (.int .u64 q.dl) (.string q.id) (.string q.val); have A2 := hS.below hB hS.lt; have hW2 := hS2.trans hB; clear hS hS2; clear A1 hW1 hB E1; clear cA0 cA1 cA2 cA3 cA4 cA5 cA6 lA fA; obtain ⟨cA0, cA1, cA2, cA3, cA4, cA5, cA6⟩ := cells7 A2; have lA := A2.lt; have fA := fun k => A2.frozen k)
    | (go_at_call 17; (with_reducible refine (G1 _).mono ?_); rintro e v3 ⟨rfl, hB⟩; have A3 := A2.below hB A2.lt; have hW3 := hW2.trans hB; clear A2 hW2 hB G1; clear cA0 cA1 cA2 cA3 cA4 cA5 cA6 lA fA)
    | (go_at_call 13; (with_reducible refine (D1 _).mono ?_); rintro e v4 ⟨rfl, hB⟩; have A4 := A3.below hB A3.lt; have hW4 := hW3.trans hB; clear A3 hW3 hB D1; obtain ⟨cA0, cA1, cA2, cA3, cA4, cA5, cA6⟩ := cells7 A4; have lA := A4.lt; have fA := fun k => A4.frozen k)
    | (go_at_call 15; (with_reducible refine (N1 _).mono ?_); rintro e v5 ⟨rfl, hB⟩; have A5 := A4.on _ hB; have hW5 := (hW4.alloc _).trans hB; have X5 := (Blk.new v4 25 #[.int .u64 q.lsn, .int .u32 q.epoch, .int .i64 q.kind, .int .u64 q.ver, .int .u64 q.dl, .string q.id, .string q.val]).below hB (Blk.new v4 25 #[.int .u64 q.lsn, .int .u32 q.epoch, .int .i64 q.kind, .int .u64 q.ver, .int .u64 q.dl, .string q.id, .string q.val]).lt; clear A4 hW4 hB N1; clear cA0 cA1 cA2 cA3 cA4 cA5 cA6 lA fA; obtain ⟨cA0, cA1, cA2, cA3, cA4, cA5, cA6⟩ := cells7 A5; have lA := A5.lt; have fA := fun k => A5.frozen k)
    | (go_at_call 15; (with_reducible refine (N2 _).mono ?_); rintro e v6 ⟨rfl, hB⟩; have A6 := A5.on _ hB; have X6 := X5.on _ hB; have hW6 := (hW5.alloc _).trans hB; have Y6 := (Blk.new v5 25 #[.int .u64 q.lsn, .int .u32 q.epoch, .int .i64 q.kind, .int .u64 q.ver, .int .u64 q.dl, .string q.id, .string q.val]).below hB (Blk.new v5 25 #[.int .u64 q.lsn, .int .u32 q.epoch, .int .i64 q.kind, .int .u64 q.ver, .int .u64 q.dl, .string q.id, .string q.val]).lt; clear A5 X5 hW5 hB N2; clear cA0 cA1 cA2 cA3 cA4 cA5 cA6 lA fA; obtain ⟨cA0, cA1, cA2, cA3, cA4, cA5, cA6⟩ := cells7 A6; have lA := A6.lt; have fA := fun k => A6.frozen k; obtain ⟨cX0, cX1, cX2, cX3, cX4, cX5, cX6⟩ := cells7 X6; have lX := X6.lt; have fX := fun k => X6.frozen k; obtain ⟨cY0, cY1, cY2, cY3, cY4, cY5, cY6⟩ := cells7 Y6; have lY := Y6.lt; have fY := fun k => Y6.frozen k)
    | (go_at_call 13; (with_reducible refine (D2 _).mono ?_); rintro e v7 ⟨rfl, hB⟩; have A7 := A6.on _ hB; have X7 := X6.on _ hB; have Y7 := Y6.on _ hB; have hW7 := (hW6.alloc _).trans hB; have U7 := (Blk.new v6 25 #[.int .u64 0, .int .u32 0, .int .i64 0, .int .u64 0, .int .u64 0, .string ⟨#[]⟩, .string ⟨#[]⟩]).below hB (Blk.new v6 25 #[.int .u64 0, .int .u32 0, .int .i64 0, .int .u64 0, .int .u64 0, .string ⟨#[]⟩, .string ⟨#[]⟩]).lt; clear A6 X6 Y6 hW6 hB D2; clear cA0 cA1 cA2 cA3 cA4 cA5 cA6 lA fA cX0 cX1 cX2 cX3 cX4 cX5 cX6 lX fX cY0 cY1 cY2 cY3 cY4 cY5 cY6 lY fY)
    | (go_at_call 10; (with_reducible refine (E2 _).mono ?_); rintro e v8 ⟨rfl, hB⟩; have A8 := A7.on _ hB; have X8 := X7.on _ hB; have Y8 := Y7.on _ hB; have U8 := U7.on _ hB; have hW8 := (hW7.alloc _).trans hB; have Z8 := (Blk.new v7 25 #[.int .u64 z.lsn, .int .u32 z.epoch, .int .i64 z.kind, .int .u64 z.ver, .int .u64 z.dl, .string z.id, .string z.val]).below hB (Blk.new v7 25 #[.int .u64 z.lsn, .int .u32 z.epoch, .int .i64 z.kind, .int .u64 z.ver, .int .u64 z.dl, .string z.id, .string z.val]).lt; clear A7 X7 Y7 U7 hW7 hB E2; obtain ⟨cZ0, cZ1, cZ2, cZ3, cZ4, cZ5, cZ6⟩ := cells7 Z8; have lZ := Z8.lt; have fZ := fun k => Z8.frozen k)
    | (go_at_call 17; (with_reducible refine (G2 _).mono ?_); rintro e v9 ⟨rfl, hB⟩; have A9 := A8.below hB A8.lt; have X9 := X8.below hB X8.lt; have Y9 := Y8.below hB Y8.lt; have U9 := U8.below hB U8.lt; have Z9 := Z8.below hB Z8.lt; have hW9 := hW8.trans hB; clear A8 X8 Y8 U8 Z8 hW8 hB G2; clear cZ0 cZ1 cZ2 cZ3 cZ4 cZ5 cZ6 lZ fZ)
    | (go_at_call 19; (with_reducible refine (FX _).mono ?_); rintro e v10 ⟨rfl, hB⟩; have A10 := A9.below hB A9.lt; have X10 := X9.below hB X9.lt; have Y10 := Y9.below hB Y9.lt; have U10 := U9.below hB U9.lt; have Z10 := Z9.below hB Z9.lt; have hW10 := hW9.trans hB; clear A9 X9 Y9 U9 Z9 hW9 hB FX)
    )
  go_ret
  exact ⟨rfl, hW10⟩
theorem walkRecordBack (W : World) (r : Rec) (hr : r.Fits) (s : ByteArray) (_hs : s.size ≤ 140737488351232) :
    Calls Try.prog 4 #[r.value, .string s] W fun e w' => e = .returned (.bool true) ∧ Below W.heap.size W w' := by
  have hcf := Rec.cut_fits hr
  cases hq : r.cut.right with
  | false =>
    cases hz : decR (cut130 s) with
    | none => exact back_nn W r _ rfl hcf hq s hz
    | some z => exact back_ny W r _ rfl hcf hq s z hz
  | true =>
    cases hz : decR (cut130 s) with
    | none => exact back_yn W r _ rfl hcf hq s hz
    | some z => exact back_yy W r _ rfl hcf hq s z hz
end Go.Proofs.Ytoofmklghllliaa
