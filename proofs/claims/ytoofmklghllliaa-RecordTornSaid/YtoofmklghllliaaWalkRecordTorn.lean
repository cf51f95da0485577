/- The walk of the law RecordTorn. -/
import Derived.Test.YtoofmklghllliaaWalkRecordBack
import Derived.Test.YtoofmklghllliaaTornPure
namespace Go.Proofs.Ytoofmklghllliaa
set_option linter.unusedSimpArgs false
set_option linter.unusedVariables false
open Go.RowKit
attribute [local go_sem high] run_mx run_mn

theorem ZeroN (u : World) : Calls Try.prog 20 #[] u fun e v => e = .returned (.string (zeroB 128)) ∧ Below u.heap.size u v := (Zero_any u).mono fun _ _ ⟨he, h⟩ => ⟨he, h ▸ Below.refl _ _⟩
theorem nextG (s : ByteArray) (l ep : Int) (u : World) : Calls Try.prog 15 #[.string s, .int .u64 l, .int .u32 ep] u fun e v => e = .returned (.tuple #[(nextD s l ep).value, .bool (nextR s l ep).isSome]) ∧ Below u.heap.size u v := nextV_eq s l ep ▸ Next_any s l ep u
/-- The torn sector. -/
def mixB (s t : ByteArray) (k : Nat) : ByteArray := s.extract 0 k ++ t.extract k t.size
theorem mixB_list {s t : ByteArray} (ht : t.size = 128) (k : Nat) : (mixB s t k).data.toList = mixL s.data.toList t.data.toList k := by
  unfold mixB mixL
  rw [app_list, extract_list, extract_list, ht, List.drop_zero, Nat.sub_zero, List.take_of_length_le (l := t.data.toList.drop k) (by rw [List.length_drop, size_len]; omega)]
theorem at129 {x : Int} (h : (Lit.int .u8 x).wf = true) : ∃ k : Nat, k ≤ 128 ∧ (wrap64 x).tmod 129 = (k : Int) := by
  have h := bounds_u8 h
  have hw : wrap64 x = x := by unfold wrap64; omega
  refine ⟨(x % 129).toNat, by omega, ?_⟩
  rw [hw, Int.tmod_eq_emod_of_nonneg h.1]; omega
set_option maxRecDepth 100000 in
set_option maxHeartbeats 4000000 in
theorem torn_nn (W : World) (a b p q : Rec) (x : Int) (ha : a.cut = p) (hb : b.cut = q) (hpf : p.Fits) (hqf : q.Fits) (hp : p.right = false) (hq : q.right = false) :
    Calls Try.prog 5 #[a.value, b.value, .int .u8 x] W fun e w' => e = .returned (.bool true) ∧ Below W.heap.size W w' := by
  have C1 := fun u => Cut_any a u
  have C2 := fun u => Cut_any b u
  rw [ha] at C1
  rw [hb] at C2
  have E1 := fun u => Encode_no p hpf hp u
  have E2 := fun u => Encode_no q hqf hq u
  have Z1 := fun u => ZeroN u
  clear ha hb hpf hqf hp hq
  generalize zeroB 128 = zz at Z1
  have FX := fun u => fixed_any u
  unfold Rec.value at *
  have A0 := (Blk.new W 25 #[.int .u64 a.lsn, .int .u32 a.epoch, .int .i64 a.kind, .int .u64 a.ver, .int .u64 a.dl, .string a.id, .string a.val]).alloc (.cells #[.int .u64 b.lsn, .int .u32 b.epoch, .int .i64 b.kind, .int .u64 b.ver, .int .u64 b.dl, .string b.id, .string b.val] 25)
  have B0 := Blk.new (W.alloc (.cells #[.int .u64 a.lsn, .int .u32 a.epoch, .int .i64 a.kind, .int .u64 a.ver, .int .u64 a.dl, .string a.id, .string a.val] 25)) 25 #[.int .u64 b.lsn, .int .u32 b.epoch, .int .i64 b.kind, .int .u64 b.ver, .int .u64 b.dl, .string b.id, .string b.val]
  rw [show (W.alloc (.cells #[.int .u64 a.lsn, .int .u32 a.epoch, .int .i64 a.kind, .int .u64 a.ver, .int .u64 a.dl, .string a.id, .string a.val] 25)).heap.size = W.heap.size + 1 by simp] at B0
  have hW0 := ((Newer.refl W).alloc (.cells #[.int .u64 a.lsn, .int .u32 a.epoch, .int .i64 a.kind, .int .u64 a.ver, .int .u64 a.dl, .string a.id, .string a.val] 25)).alloc (.cells #[.int .u64 b.lsn, .int .u32 b.epoch, .int .i64 b.kind, .int .u64 b.ver, .int .u64 b.dl, .string b.id, .string b.val] 25)
  go_enter Try.func5, Try.ntmps5
  go_wp2_with (first
    | (go_at_call 9; (with_reducible refine (C1 _).mono ?_); rintro e v1 ⟨rfl, hB⟩; have A1 := A0.below hB A0.lt; have B1 := B0.below hB B0.lt; have hW1 := hW0.trans hB; clear A0 B0 hW0 hB C1; obtain ⟨cA0, cA1, cA2, cA3, cA4, cA5, cA6⟩ := cells7 A1; have lA := A1.lt; have fA := fun k => A1.frozen k; obtain ⟨cB0, cB1, cB2, cB3, cB4, cB5, cB6⟩ := cells7 B1; have lB := B1.lt; have fB := fun k => B1.frozen k)
    | (go_at_call 9; (with_reducible refine (C2 _).mono ?_); rintro e v2 ⟨rfl, hB⟩; obtain ⟨hS, hS2⟩ := set7N A1 hW1 (by simp) (.int .u64 p.lsn) (.int .u32 p.epoch) (.int .i64 p.kind) (.int .u64 p.ver) (.int .u64 p.dl) (.string p.id) (.string p.val); have A2 := hS.below hB hS.lt; have B2 := (far7 B1 (by simp) (.int .u64 p.lsn) (.int .u32 p.epoch) (.int .i64 p.kind) (.int .u64 p.ver) (.int .u64 p.dl) (.string p.id) (.string p.val)).below hB (far7 B1 (by simp) (.int .u64 p.lsn) (.int .u32 p.epoch) (.int .i64 p.kind) (.int .u64 p.ver) (.int .u64 p.dl) (.string p.id) (.string p.val)).lt; have hW2 := hS2.trans hB; clear hS hS2; clear A1 B1 hW1 hB C2; clear cA0 cA1 cA2 cA3 cA4 cA5 cA6 lA fA cB0 cB1 cB2 cB3 cB4 cB5 cB6 lB fB; obtain ⟨cA0, cA1, cA2, cA3, cA4, cA5, cA6⟩ := cells7 A2; have lA := A2.lt; have fA := fun k => A2.frozen k; obtain ⟨cB0, cB1, cB2, cB3, cB4, cB5, cB6⟩ := cells7 B2; have lB := B2.lt; have fB := fun k => B2.frozen k)
    | (go_at_call 10; (with_reducible refine (E1 _).mono ?_); rintro e v3 ⟨rfl, hB⟩; obtain ⟨hS, hS2⟩ := set7N B2 hW2 (by simp) (.int .u64 q.lsn) (.int .u32 q.epoch) (.int .i64 q.kind) (.int .u64 q.ver) (.int .u64 q.dl) (.string q.id) (.string q.val); have A3 := (far7 A2 (by simp) (.int .u64 q.lsn) (.int .u32 q.epoch) (.int .i64 q.kind) (.int .u64 q.ver) (.int .u64 q.dl) (.string q.id) (.string q.val)).below hB (far7 A2 (by simp) (.int .u64 q.lsn) (.int .u32 q.epoch) (.int .i64 q.kind) (.int .u64 q.ver) (.int .u64 q.dl) (.string q.id) (.string q.val)).lt; have B3 := hS.below hB hS.lt; have hW3 := hS2.trans hB; clear hS hS2; clear A2 B2 hW2 hB E1; clear cA0 cA1 cA2 cA3 cA4 cA5 cA6 lA fA cB0 cB1 cB2 cB3 cB4 cB5 cB6 lB fB; obtain ⟨cA0, cA1, cA2, cA3, cA4, cA5, cA6⟩ := cells7 A3; have lA := A3.lt; have fA := fun k => A3.frozen k; obtain ⟨cB0, cB1, cB2, cB3, cB4, cB5, cB6⟩ := cells7 B3; have lB := B3.lt; have fB := fun k => B3.frozen k)
    | (go_at_call 10; (with_reducible refine (E2 _).mono ?_); rintro e v4 ⟨rfl, hB⟩; have A4 := A3.below hB A3.lt; have B4 := B3.below hB B3.lt; have hW4 := hW3.trans hB; clear A3 B3 hW3 hB E2; clear cA0 cA1 cA2 cA3 cA4 cA5 cA6 lA fA cB0 cB1 cB2 cB3 cB4 cB5 cB6 lB fB)
    | (go_at_call 20; (with_reducible refine (Z1 _).mono ?_); rintro e v5 ⟨rfl, hB⟩; have A5 := A4.below hB A4.lt; have B5 := B4.below hB B4.lt; have hW5 := hW4.trans hB; clear A4 B4 hW4 hB Z1)
    | (go_at_call 19; (with_reducible refine (FX _).mono ?_); rintro e v6 ⟨rfl, hB⟩; have A6 := A5.below hB A5.lt; have B6 := B5.below hB B5.lt; have hW6 := hW5.trans hB; clear A5 B5 hW5 hB FX)
    )
  go_ret
  exact ⟨rfl, hW6⟩
set_option maxRecDepth 100000 in
set_option maxHeartbeats 4000000 in
theorem torn_ny (W : World) (a b p q : Rec) (x : Int) (ha : a.cut = p) (hb : b.cut = q) (hpf : p.Fits) (hqf : q.Fits) (hp : p.right = false) (hq : q.right = true) :
    Calls Try.prog 5 #[a.value, b.value, .int .u8 x] W fun e w' => e = .returned (.bool true) ∧ Below W.heap.size W w' := by
  have C1 := fun u => Cut_any a u
  have C2 := fun u => Cut_any b u
  rw [ha] at C1
  rw [hb] at C2
  have E1 := fun u => Encode_no p hpf hp u
  have E2 := fun u => encY q hqf hq u
  clear ha hb hpf hqf hp hq
  generalize q.sector = sec2 at E2
  have FX := fun u => fixed_any u
  unfold Rec.value at *
  have A0 := (Blk.new W 25 #[.int .u64 a.lsn, .int .u32 a.epoch, .int .i64 a.kind, .int .u64 a.ver, .int .u64 a.dl, .string a.id, .string a.val]).alloc (.cells #[.int .u64 b.lsn, .int .u32 b.epoch, .int .i64 b.kind, .int .u64 b.ver, .int .u64 b.dl, .string b.id, .string b.val] 25)
  have B0 := Blk.new (W.alloc (.cells #[.int .u64 a.lsn, .int .u32 a.epoch, .int .i64 a.kind, .int .u64 a.ver, .int .u64 a.dl, .string a.id, .string a.val] 25)) 25 #[.int .u64 b.lsn, .int .u32 b.epoch, .int .i64 b.kind, .int .u64 b.ver, .int .u64 b.dl, .string b.id, .string b.val]
  rw [show (W.alloc (.cells #[.int .u64 a.lsn, .int .u32 a.epoch, .int .i64 a.kind, .int .u64 a.ver, .int .u64 a.dl, .string a.id, .string a.val] 25)).heap.size = W.heap.size + 1 by simp] at B0
  have hW0 := ((Newer.refl W).alloc (.cells #[.int .u64 a.lsn, .int .u32 a.epoch, .int .i64 a.kind, .int .u64 a.ver, .int .u64 a.dl, .string a.id, .string a.val] 25)).alloc (.cells #[.int .u64 b.lsn, .int .u32 b.epoch, .int .i64 b.kind, .int .u64 b.ver, .int .u64 b.dl, .string b.id, .string b.val] 25)
  go_enter Try.func5, Try.ntmps5
  go_wp2_with (first
    | (go_at_call 9; (with_reducible refine (C1 _).mono ?_); rintro e v1 ⟨rfl, hB⟩; have A1 := A0.below hB A0.lt; have B1 := B0.below hB B0.lt; have hW1 := hW0.trans hB; clear A0 B0 hW0 hB C1; obtain ⟨cA0, cA1, cA2, cA3, cA4, cA5, cA6⟩ := cells7 A1; have lA := A1.lt; have fA := fun k => A1.frozen k; obtain ⟨cB0, cB1, cB2, cB3, cB4, cB5, cB6⟩ := cells7 B1; have lB := B1.lt; have fB := fun k => B1.frozen k)
    | (go_at_call 9; (with_reducible refine (C2 _).mono ?_); rintro e v2 ⟨rfl, hB⟩; obtain ⟨hS, hS2⟩ := set7N A1 hW1 (by simp) (.int .u64 p.lsn) (.int .u32 p.epoch) (.int .i64 p.kind) (.int .u64 p.ver) (.int .u64 p.dl) (.string p.id) (.string p.val); have A2 := hS.below hB hS.lt; have B2 := (far7 B1 (by simp) (.int .u64 p.lsn) (.int .u32 p.epoch) (.int .i64 p.kind) (.int .u64 p.ver) (.int .u64 p.dl) (.string p.id) (.string p.val)).below hB (far7 B1 (by simp) (.int .u64 p.lsn) (.int .u32 p.epoch) (.int .i64 p.kind) (.int .u64 p.ver) (.int .u64 p.dl) (.string p.id) (.string p.val)).lt; have hW2 := hS2.trans hB; clear hS hS2; clear A1 B1 hW1 hB C2; clear cA0 cA1 cA2 cA3 cA4 cA5 cA6 lA fA cB0 cB1 cB2 cB3 cB4 cB5 cB6 lB fB; obtain ⟨cA0, cA1, cA2, cA3, cA4, cA5, cA6⟩ := cells7 A2; have lA := A2.lt; have fA := fun k => A2.frozen k; obtain ⟨cB0, cB1, cB2, cB3, cB4, cB5, cB6⟩ := cells7 B2; have lB := B2.lt; have fB := fun k => B2.frozen k)
    | (go_at_call 10; (with_reducible refine (E1 _).mono ?_); rintro e v3 ⟨rfl, hB⟩; obtain ⟨hS, hS2⟩ := set7N B2 hW2 (by simp) (.int .u64 q.lsn) (.int .u32 q.epoch) (.int .i64 q.kind) (.int .u64 q.ver) (.int .u64 q.dl) (.string q.id) (.string q.val); have A3 := (far7 A2 (by simp) (.int .u64 q.lsn) (.int .u32 q.epoch) (.int .i64 q.kind) (.int .u64 q.ver) (.int .u64 q.dl) (.string q.id) (.string q.val)).below hB (far7 A2 (by simp) (.int .u64 q.lsn) (.int .u32 q.epoch) (.int .i64 q.kind) (.int .u64 q.ver) (.int .u64 q.dl) (.string q.id) (.string q.val)).lt; have B3 := hS.below hB hS.lt; have hW3 := hS2.trans hB; clear hS hS2; clear A2 B2 hW2 hB E1; clear cA0 cA1 cA2 cA3 cA4 cA5 cA6 lA fA cB0 cB1 cB2 cB3 cB4 cB5 cB6 lB fB; obtain ⟨cA0, cA1, cA2, cA3, cA4, cA5, cA6⟩ := cells7 A3; have lA := A3.lt; have fA := fun k => A3.frozen k; obtain ⟨cB0, cB1, cB2, cB3, cB4, cB5, cB6⟩ := cells7 B3; have lB := B3.lt; have fB := fun k => B3.frozen k)
    | (go_at_call 10; (with_reducible refine (E2 _).mono ?_); rintro e v4 ⟨rfl, hB⟩; have A4 := A3.below hB A3.lt; have B4 := B3.below hB B3.lt; have hW4 := hW3.trans hB; clear A3 B3 hW3 hB E2; clear cA0 cA1 cA2 cA3 cA4 cA5 cA6 lA fA cB0 cB1 cB2 cB3 cB4 cB5 cB6 lB fB)
    | (go_at_call 19; (with_reducible refine (FX _).mono ?_); rintro e v5 ⟨rfl, hB⟩; have A5 := A4.below hB A4.lt; have B5 := B4.below hB B4.lt; have hW5 := hW4.trans hB; clear A4 B4 hW4 hB FX)
    )
  go_ret
  exact ⟨rfl, hW5⟩
set_option maxRecDepth 100000 in
set_option maxHeartbeats 4000000 in
theorem torn_same (W : World) (a b p : Rec) (k2 ver2 d2 : Int) (i2 t2 : ByteArray) (x : Int) (ha : a.cut = p) (hb : b.cut = (⟨p.lsn, p.epoch, k2, ver2, d2, i2, t2⟩ : Rec)) (hpf : p.Fits) (hqf : Rec.Fits (⟨p.lsn, p.epoch, k2, ver2, d2, i2, t2⟩ : Rec)) (hp : p.right = true) (hq : Rec.right (⟨p.lsn, p.epoch, k2, ver2, d2, i2, t2⟩ : Rec) = true) :
    Calls Try.prog 5 #[a.value, b.value, .int .u8 x] W fun e w' => e = .returned (.bool true) ∧ Below W.heap.size W w' := by
  have C1 := fun u => Cut_any a u
  have C2 := fun u => Cut_any b u
  rw [ha] at C1
  rw [hb] at C2
  have E1 := fun u => encY p hpf hp u
  have E2 := fun u => encY (⟨p.lsn, p.epoch, k2, ver2, d2, i2, t2⟩ : Rec) hqf hq u
  have z1 : (p.sector.size : Int) = 128 := by have := Rec.sector_size hp; omega
  have z2 : ((⟨p.lsn, p.epoch, k2, ver2, d2, i2, t2⟩ : Rec).sector.size : Int) = 128 := by have := Rec.sector_size (r := (⟨p.lsn, p.epoch, k2, ver2, d2, i2, t2⟩ : Rec)) hq; omega
  clear ha hb hpf hqf hp hq
  generalize p.sector = sec at E1 z1
  generalize (⟨p.lsn, p.epoch, k2, ver2, d2, i2, t2⟩ : Rec).sector = sec2 at E2 z2
  have FX := fun u => fixed_any u
  unfold Rec.value at *
  dsimp only at *
  have A0 := (Blk.new W 25 #[.int .u64 a.lsn, .int .u32 a.epoch, .int .i64 a.kind, .int .u64 a.ver, .int .u64 a.dl, .string a.id, .string a.val]).alloc (.cells #[.int .u64 b.lsn, .int .u32 b.epoch, .int .i64 b.kind, .int .u64 b.ver, .int .u64 b.dl, .string b.id, .string b.val] 25)
  have B0 := Blk.new (W.alloc (.cells #[.int .u64 a.lsn, .int .u32 a.epoch, .int .i64 a.kind, .int .u64 a.ver, .int .u64 a.dl, .string a.id, .string a.val] 25)) 25 #[.int .u64 b.lsn, .int .u32 b.epoch, .int .i64 b.kind, .int .u64 b.ver, .int .u64 b.dl, .string b.id, .string b.val]
  rw [show (W.alloc (.cells #[.int .u64 a.lsn, .int .u32 a.epoch, .int .i64 a.kind, .int .u64 a.ver, .int .u64 a.dl, .string a.id, .string a.val] 25)).heap.size = W.heap.size + 1 by simp] at B0
  have hW0 := ((Newer.refl W).alloc (.cells #[.int .u64 a.lsn, .int .u32 a.epoch, .int .i64 a.kind, .int .u64 a.ver, .int .u64 a.dl, .string a.id, .string a.val] 25)).alloc (.cells #[.int .u64 b.lsn, .int .u32 b.epoch, .int .i64 b.kind, .int .u64 b.ver, .int .u64 b.dl, .string b.id, .string b.val] 25)
  go_enter Try.func5, Try.ntmps5
  go_wp2_with (first
    | (go_at_call 9; (with_reducible refine (C1 _).mono ?_); rintro e v1 ⟨rfl, hB⟩; have A1 := A0.below hB A0.lt; have B1 := B0.below hB B0.lt; have hW1 := hW0.trans hB; clear A0 B0 hW0 hB C1; obtain ⟨cA0, cA1, cA2, cA3, cA4, cA5, cA6⟩ := cells7 A1; have lA := A1.lt; have fA := fun k => A1.frozen k; obtain ⟨cB0, cB1, cB2, cB3, cB4, cB5, cB6⟩ := cells7 B1; have lB := B1.lt; have fB := fun k => B1.frozen k)
    | (go_at_call 9; (with_reducible refine (C2 _).mono ?_); rintro e v2 ⟨rfl, hB⟩; obtain ⟨hS, hS2⟩ := set7N A1 hW1 (by simp) (.int .u64 p.lsn) (.int .u32 p.epoch) (.int .i64 p.kind) (.int .u64 p.ver) (.int .u64 p.dl) (.string p.id) (.string p.val); have A2 := hS.below hB hS.lt; have B2 := (far7 B1 (by simp) (.int .u64 p.lsn) (.int .u32 p.epoch) (.int .i64 p.kind) (.int .u64 p.ver) (.int .u64 p.dl) (.string p.id) (.string p.val)).below hB (far7 B1 (by simp) (.int .u64 p.lsn) (.int .u32 p.epoch) (.int .i64 p.kind) (.int .u64 p.ver) (.int .u64 p.dl) (.string p.id) (.string p.val)).lt; have hW2 := hS2.trans hB; clear hS hS2; clear A1 B1 hW1 hB C2; clear cA0 cA1 cA2 cA3 cA4 cA5 cA6 lA fA cB0 cB1 cB2 cB3 cB4 cB5 cB6 lB fB; obtain ⟨cA0, cA1, cA2, cA3, cA4, cA5, cA6⟩ := cells7 A2; have lA := A2.lt; have fA := fun k => A2.frozen k; obtain ⟨cB0, cB1, cB2, cB3, cB4, cB5, cB6⟩ := cells7 B2; have lB := B2.lt; have fB := fun k => B2.frozen k)
    | (go_at_call 10; (with_reducible refine (E1 _).mono ?_); rintro e v3 ⟨rfl, hB⟩; obtain ⟨hS, hS2⟩ := set7N B2 hW2 (by simp) (.int .u64 p.lsn) (.int .u32 p.epoch) (.int .i64 k2) (.int .u64 ver2) (.int .u64 d2) (.string i2) (.string t2); have A3 := (far7 A2 (by simp) (.int .u64 p.lsn) (.int .u32 p.epoch) (.int .i64 k2) (.int .u64 ver2) (.int .u64 d2) (.string i2) (.string t2)).below hB (far7 A2 (by simp) (.int .u64 p.lsn) (.int .u32 p.epoch) (.int .i64 k2) (.int .u64 ver2) (.int .u64 d2) (.string i2) (.string t2)).lt; have B3 := hS.below hB hS.lt; have hW3 := hS2.trans hB; clear hS hS2; clear A2 B2 hW2 hB E1; clear cA0 cA1 cA2 cA3 cA4 cA5 cA6 lA fA cB0 cB1 cB2 cB3 cB4 cB5 cB6 lB fB; obtain ⟨cA0, cA1, cA2, cA3, cA4, cA5, cA6⟩ := cells7 A3; have lA := A3.lt; have fA := fun k => A3.frozen k; obtain ⟨cB0, cB1, cB2, cB3, cB4, cB5, cB6⟩ := cells7 B3; have lB := B3.lt; have fB := fun k => B3.frozen k)
    | (go_at_call 10; (with_reducible refine (E2 _).mono ?_); rintro e v4 ⟨rfl, hB⟩; have A4 := A3.below hB A3.lt; have B4 := B3.below hB B3.lt; have hW4 := hW3.trans hB; clear A3 B3 hW3 hB E2; clear cA0 cA1 cA2 cA3 cA4 cA5 cA6 lA fA cB0 cB1 cB2 cB3 cB4 cB5 cB6 lB fB; obtain ⟨cA0, cA1, cA2, cA3, cA4, cA5, cA6⟩ := cells7 A4; have lA := A4.lt; have fA := fun k => A4.frozen k; obtain ⟨cB0, cB1, cB2, cB3, cB4, cB5, cB6⟩ := cells7 B4; have lB := B4.lt; have fB := fun k => B4.frozen k)
    | (go_at_call 19; (with_reducible refine (FX _).mono ?_); rintro e v5 ⟨rfl, hB⟩; have A5 := A4.below hB A4.lt; have B5 := B4.below hB B4.lt; have hW5 := hW4.trans hB; clear A4 B4 hW4 hB FX; clear cA0 cA1 cA2 cA3 cA4 cA5 cA6 lA fA cB0 cB1 cB2 cB3 cB4 cB5 cB6 lB fB)
    )
  go_ret
  exact ⟨rfl, hW5⟩
set_option maxRecDepth 100000 in
set_option maxHeartbeats 4000000 in
theorem torn_m10 (W : World) (a b p q : Rec) (x : Int) (ha : a.cut = p) (hb : b.cut = q) (hpf : p.Fits) (hqf : q.Fits) (hp : p.right = true) (hq : Rec.right q = true) (k : Nat) (hk : k ≤ 128) (hx : (wrap64 x).tmod 129 = (k : Int)) (hn : p.lsn ≠ q.lsn) (h1 : mixB p.sector (q.sector) k = p.sector) (h2 : ¬ mixB p.sector (q.sector) k = q.sector) :
    Calls Try.prog 5 #[a.value, b.value, .int .u8 x] W fun e w' => e = .returned (.bool true) ∧ Below W.heap.size W w' := by
  have C1 := fun u => Cut_any a u
  have C2 := fun u => Cut_any b u
  rw [ha] at C1
  rw [hb] at C2
  have E1 := fun u => encY p hpf hp u
  have z1 : (p.sector.size : Int) = 128 := by have := Rec.sector_size hp; omega
  have hx2 : (IntKind.i64.wrap x).tmod 129 = (k : Int) := by rw [IntWalk.i64_left]; exact hx
  have k0 : (0 : Int) ≤ (k : Int) := by omega
  have k1 : (k : Int) ≤ 128 := by omega
  have hne : ¬ (p.lsn = q.lsn ∧ p.epoch = q.epoch) := fun h => hn h.1
  have E2 := fun u => encY q hqf hq u
  have z2n := Rec.sector_size hq
  have hm := mixB_list (s := p.sector) z2n k
  have N1 := torn_next hp hpf (tornTail_sector hpf hq hqf hne) hk hm
  have N2 := torn_other hp hpf hq hqf hne hk hm
  have hor : (p.lsn == q.lsn) = false := by simpa using hn
  have z2 : ((q.sector).size : Int) = 128 := by omega
  have hadd : ∀ u, (Op.stringOp .add (p.sector.extract 0 k) ((q.sector).extract k (q.sector).size)).run Try.prog u = .ok (.string (mixB p.sector (q.sector) k)) u := fun u => run_add _ _ (by rw [ByteArray.size_extract]; omega) (by rw [ByteArray.size_extract]; omega) u
  rw [if_pos h1] at N1
  have M1 := fun u => nextY N1 u
  rw [if_neg h2] at N2
  have M2 := fun u => nextN N2 u
  have e1 : ((mixB p.sector (q.sector) k).toList == p.sector.toList) = true := by rw [h1]; exact beq_self_eq_true _
  have e2 : ((mixB p.sector (q.sector) k).toList == (q.sector).toList) = false := bytes_ne h2
  clear N1 hm z2n N2 hne hn
  clear h1 h2
  generalize mixB p.sector (q.sector) k = m at *
  generalize p.sector = sec at *
  generalize q.sector = sec2 at *
  clear ha hb hpf hqf hp hq hk
  have FX := fun u => fixed_any u
  unfold Rec.value at *
  have A0 := (Blk.new W 25 #[.int .u64 a.lsn, .int .u32 a.epoch, .int .i64 a.kind, .int .u64 a.ver, .int .u64 a.dl, .string a.id, .string a.val]).alloc (.cells #[.int .u64 b.lsn, .int .u32 b.epoch, .int .i64 b.kind, .int .u64 b.ver, .int .u64 b.dl, .string b.id, .string b.val] 25)
  have B0 := Blk.new (W.alloc (.cells #[.int .u64 a.lsn, .int .u32 a.epoch, .int .i64 a.kind, .int .u64 a.ver, .int .u64 a.dl, .string a.id, .string a.val] 25)) 25 #[.int .u64 b.lsn, .int .u32 b.epoch, .int .i64 b.kind, .int .u64 b.ver, .int .u64 b.dl, .string b.id, .string b.val]
  rw [show (W.alloc (.cells #[.int .u64 a.lsn, .int .u32 a.epoch, .int .i64 a.kind, .int .u64 a.ver, .int .u64 a.dl, .string a.id, .string a.val] 25)).heap.size = W.heap.size + 1 by simp] at B0
  have hW0 := ((Newer.refl W).alloc (.cells #[.int .u64 a.lsn, .int .u32 a.epoch, .int .i64 a.kind, .int .u64 a.ver, .int .u64 a.dl, .string a.id, .string a.val] 25)).alloc (.cells #[.int .u64 b.lsn, .int .u32 b.epoch, .int .i64 b.kind, .int .u64 b.ver, .int .u64 b.dl, .string b.id, .string b.val] 25)
  go_enter Try.func5, Try.ntmps5
  go_wp2_with (first
    | (go_at_call 9; (with_reducible refine (C1 _).mono ?_); rintro e v1 ⟨rfl, hB⟩; have A1 := A0.below hB A0.lt; have B1 := B0.below hB B0.lt; have hW1 := hW0.trans hB; clear A0 B0 hW0 hB C1; obtain ⟨cA0, cA1, cA2, cA3, cA4, cA5, cA6⟩ := cells7 A1; have lA := A1.lt; have fA := fun k => A1.frozen k; obtain ⟨cB0, cB1, cB2, cB3, cB4, cB5, cB6⟩ := cells7 B1; have lB := B1.lt; have fB := fun k => B1.frozen k)
    | (go_at_call 9; (with_reducible refine (C2 _).mono ?_); rintro e v2 ⟨rfl, hB⟩; obtain ⟨hS, hS2⟩ := set7N A1 hW1 (by simp) (.int .u64 p.lsn) (.int .u32 p.epoch) (.int .i64 p.kind) (.int .u64 p.ver) (.int .u64 p.dl) (.string p.id) (.string p.val); have A2 := hS.below hB hS.lt; have B2 := (far7 B1 (by simp) (.int .u64 p.lsn) (.int .u32 p.epoch) (.int .i64 p.kind) (.int .u64 p.ver) (.int .u64 p.dl) (.string p.id) (.string p.val)).below hB (far7 B1 (by simp) (.int .u64 p.lsn) (.int .u32 p.epoch) (.int .i64 p.kind) (.int .u64 p.ver) (.int .u64 p.dl) (.string p.id) (.string p.val)).lt; have hW2 := hS2.trans hB; clear hS hS2; clear A1 B1 hW1 hB C2; clear cA0 cA1 cA2 cA3 cA4 cA5 cA6 lA fA cB0 cB1 cB2 cB3 cB4 cB5 cB6 lB fB; obtain ⟨cA0, cA1, cA2, cA3, cA4, cA5, cA6⟩ := cells7 A2; have lA := A2.lt; have fA := fun k => A2.frozen k; obtain ⟨cB0, cB1, cB2, cB3, cB4, cB5, cB6⟩ := cells7 B2; have lB := B2.lt; have fB := fun k => B2.frozen k)
    | (go_at_call 10; (with_reducible refine (E1 _).mono ?_); rintro e v3 ⟨rfl, hB⟩; obtain ⟨hS, hS2⟩ := set7N B2 hW2 (by simp) (.int .u64 q.lsn) (.int .u32 q.epoch) (.int .i64 q.kind) (.int .u64 q.ver) (.int .u64 q.dl) (.string q.id) (.string q.val); have A3 := (far7 A2 (by simp) (.int .u64 q.lsn) (.int .u32 q.epoch) (.int .i64 q.kind) (.int .u64 q.ver) (.int .u64 q.dl) (.string q.id) (.string q.val)).below hB (far7 A2 (by simp) (.int .u64 q.lsn) (.int .u32 q.epoch) (.int .i64 q.kind) (.int .u64 q.ver) (.int .u64 q.dl) (.string q.id) (.string q.val)).lt; have B3 := hS.below hB hS.lt; have hW3 := hS2.trans hB; clear hS hS2; clear A2 B2 hW2 hB E1; clear cA0 cA1 cA2 cA3 cA4 cA5 cA6 lA fA cB0 cB1 cB2 cB3 cB4 cB5 cB6 lB fB; obtain ⟨cA0, cA1, cA2, cA3, cA4, cA5, cA6⟩ := cells7 A3; have lA := A3.lt; have fA := fun k => A3.frozen k; obtain ⟨cB0, cB1, cB2, cB3, cB4, cB5, cB6⟩ := cells7 B3; have lB := B3.lt; have fB := fun k => B3.frozen k)
    | (go_at_call 10; (with_reducible refine (E2 _).mono ?_); rintro e v4 ⟨rfl, hB⟩; have A4 := A3.below hB A3.lt; have B4 := B3.below hB B3.lt; have hW4 := hW3.trans hB; clear A3 B3 hW3 hB E2; clear cA0 cA1 cA2 cA3 cA4 cA5 cA6 lA fA cB0 cB1 cB2 cB3 cB4 cB5 cB6 lB fB; obtain ⟨cA0, cA1, cA2, cA3, cA4, cA5, cA6⟩ := cells7 A4; have lA := A4.lt; have fA := fun k => A4.frozen k; obtain ⟨cB0, cB1, cB2, cB3, cB4, cB5, cB6⟩ := cells7 B4; have lB := B4.lt; have fB := fun k => B4.frozen k)
    )
  refine wp_region_ord Newer.grow [(0, true), (1, true), (2, true), (3, true), (4, true), (5, true), (6, true), (7, true)] [] (by kernel_rfl) (by kernel_rfl) rfl (by kernel_rfl) (by intro _ _ d _ _ h; cases d <;> exact h) ?_
  iterate 8
    (apply wpOrd_take
     · exact rfl
     · intro w1 h1
       (skip)
       go_simp
       first
         | with_reducible exact ⟨rfl, Newer.grow.refl _⟩
     simp only [Act.put, List.setIfInBounds_toArray, List.set_cons_zero, List.set_cons_succ])
  refine wpOrd_done fun w1 h1 => ?_
  have A5 := A4.below h1.undrew A4.lt
  have B5 := B4.below h1.undrew B4.lt
  have hW5 := hW4.trans h1.undrew
  clear cA0 cA1 cA2 cA3 cA4 cA5 cA6 lA cB0 cB1 cB2 cB3 cB4 cB5 cB6 lB A4 B4 hW4 h1
  obtain ⟨cA0, cA1, cA2, cA3, cA4, cA5, cA6⟩ := cells7 A5
  have lA := A5.lt
  go_wp2_with (first
    | (go_at_call 15; (with_reducible refine (M1 _).mono ?_); rintro e v6 ⟨rfl, hB⟩; have A6 := A5.below hB A5.lt; have B6 := B5.below hB B5.lt; have hW6 := hW5.trans hB; clear A5 B5 hW5 hB M1; obtain ⟨cA0, cA1, cA2, cA3, cA4, cA5, cA6⟩ := cells7 A6; have lA := A6.lt; have fA := fun k => A6.frozen k; obtain ⟨cB0, cB1, cB2, cB3, cB4, cB5, cB6⟩ := cells7 B6; have lB := B6.lt; have fB := fun k => B6.frozen k)
    | (go_at_call 15; (with_reducible refine (M2 _).mono ?_); rintro e v7 ⟨rfl, hB⟩; have A7 := A6.on _ hB; have B7 := B6.on _ hB; have hW7 := (hW6.alloc _).trans hB; have X7 := (Blk.new v6 25 #[.int .u64 p.lsn, .int .u32 p.epoch, .int .i64 p.kind, .int .u64 p.ver, .int .u64 p.dl, .string p.id, .string p.val]).below hB (Blk.new v6 25 #[.int .u64 p.lsn, .int .u32 p.epoch, .int .i64 p.kind, .int .u64 p.ver, .int .u64 p.dl, .string p.id, .string p.val]).lt; clear A6 B6 hW6 hB M2; clear cA0 cA1 cA2 cA3 cA4 cA5 cA6 lA fA cB0 cB1 cB2 cB3 cB4 cB5 cB6 lB fB)
    | (go_at_call 19; (with_reducible refine (FX _).mono ?_); rintro e v8 ⟨rfl, hB⟩; have A8 := A7.on _ hB; have B8 := B7.on _ hB; have X8 := X7.on _ hB; have hW8 := (hW7.alloc _).trans hB; have U8 := (Blk.new v7 25 #[.int .u64 0, .int .u32 0, .int .i64 0, .int .u64 0, .int .u64 0, .string ⟨#[]⟩, .string ⟨#[]⟩]).below hB (Blk.new v7 25 #[.int .u64 0, .int .u32 0, .int .i64 0, .int .u64 0, .int .u64 0, .string ⟨#[]⟩, .string ⟨#[]⟩]).lt; clear A7 B7 X7 hW7 hB FX)
    )
  go_ret
  exact ⟨rfl, hW8⟩
set_option maxRecDepth 100000 in
set_option maxHeartbeats 4000000 in
theorem torn_e10 (W : World) (a b p : Rec) (ep2 k2 ver2 d2 : Int) (i2 t2 : ByteArray) (x : Int) (ha : a.cut = p) (hb : b.cut = (⟨p.lsn, ep2, k2, ver2, d2, i2, t2⟩ : Rec)) (hpf : p.Fits) (hqf : Rec.Fits (⟨p.lsn, ep2, k2, ver2, d2, i2, t2⟩ : Rec)) (hp : p.right = true) (hq : Rec.right (⟨p.lsn, ep2, k2, ver2, d2, i2, t2⟩ : Rec) = true) (k : Nat) (hk : k ≤ 128) (hx : (wrap64 x).tmod 129 = (k : Int)) (hn : p.epoch ≠ ep2) (h1 : mixB p.sector ((⟨p.lsn, ep2, k2, ver2, d2, i2, t2⟩ : Rec).sector) k = p.sector) (h2 : ¬ mixB p.sector ((⟨p.lsn, ep2, k2, ver2, d2, i2, t2⟩ : Rec).sector) k = (⟨p.lsn, ep2, k2, ver2, d2, i2, t2⟩ : Rec).sector) :
    Calls Try.prog 5 #[a.value, b.value, .int .u8 x] W fun e w' => e = .returned (.bool true) ∧ Below W.heap.size W w' := by
  have C1 := fun u => Cut_any a u
  have C2 := fun u => Cut_any b u
  rw [ha] at C1
  rw [hb] at C2
  have E1 := fun u => encY p hpf hp u
  have z1 : (p.sector.size : Int) = 128 := by have := Rec.sector_size hp; omega
  have hx2 : (IntKind.i64.wrap x).tmod 129 = (k : Int) := by rw [IntWalk.i64_left]; exact hx
  have k0 : (0 : Int) ≤ (k : Int) := by omega
  have k1 : (k : Int) ≤ 128 := by omega
  have hne : ¬ (p.lsn = p.lsn ∧ p.epoch = ep2) := fun h => hn h.2
  have E2 := fun u => encY (⟨p.lsn, ep2, k2, ver2, d2, i2, t2⟩ : Rec) hqf hq u
  have z2n := Rec.sector_size (r := (⟨p.lsn, ep2, k2, ver2, d2, i2, t2⟩ : Rec)) hq
  have hm := mixB_list (s := p.sector) z2n k
  have N1 := torn_next hp hpf (tornTail_sector hpf hq hqf hne) hk hm
  have N2 := torn_other hp hpf hq hqf hne hk hm
  have hor : (p.epoch == ep2) = false := by simpa using hn
  have z2 : (((⟨p.lsn, ep2, k2, ver2, d2, i2, t2⟩ : Rec).sector).size : Int) = 128 := by omega
  have hadd : ∀ u, (Op.stringOp .add (p.sector.extract 0 k) (((⟨p.lsn, ep2, k2, ver2, d2, i2, t2⟩ : Rec).sector).extract k ((⟨p.lsn, ep2, k2, ver2, d2, i2, t2⟩ : Rec).sector).size)).run Try.prog u = .ok (.string (mixB p.sector ((⟨p.lsn, ep2, k2, ver2, d2, i2, t2⟩ : Rec).sector) k)) u := fun u => run_add _ _ (by rw [ByteArray.size_extract]; omega) (by rw [ByteArray.size_extract]; omega) u
  rw [if_pos h1] at N1
  have M1 := fun u => nextY N1 u
  rw [if_neg h2] at N2
  have M2 := fun u => nextN N2 u
  have e1 : ((mixB p.sector ((⟨p.lsn, ep2, k2, ver2, d2, i2, t2⟩ : Rec).sector) k).toList == p.sector.toList) = true := by rw [h1]; exact beq_self_eq_true _
  have e2 : ((mixB p.sector ((⟨p.lsn, ep2, k2, ver2, d2, i2, t2⟩ : Rec).sector) k).toList == ((⟨p.lsn, ep2, k2, ver2, d2, i2, t2⟩ : Rec).sector).toList) = false := bytes_ne h2
  clear N1 hm z2n N2 hne hn
  clear h1 h2
  generalize mixB p.sector ((⟨p.lsn, ep2, k2, ver2, d2, i2, t2⟩ : Rec).sector) k = m at *
  generalize p.sector = sec at *
  generalize (⟨p.lsn, ep2, k2, ver2, d2, i2, t2⟩ : Rec).sector = sec2 at *
  clear ha hb hpf hqf hp hq hk
  have FX := fun u => fixed_any u
  unfold Rec.value at *
  dsimp only at *
  have A0 := (Blk.new W 25 #[.int .u64 a.lsn, .int .u32 a.epoch, .int .i64 a.kind, .int .u64 a.ver, .int .u64 a.dl, .string a.id, .string a.val]).alloc (.cells #[.int .u64 b.lsn, .int .u32 b.epoch, .int .i64 b.kind, .int .u64 b.ver, .int .u64 b.dl, .string b.id, .string b.val] 25)
  have B0 := Blk.new (W.alloc (.cells #[.int .u64 a.lsn, .int .u32 a.epoch, .int .i64 a.kind, .int .u64 a.ver, .int .u64 a.dl, .string a.id, .string a.val] 25)) 25 #[.int .u64 b.lsn, .int .u32 b.epoch, .int .i64 b.kind, .int .u64 b.ver, .int .u64 b.dl, .string b.id, .string b.val]
  rw [show (W.alloc (.cells #[.int .u64 a.lsn, .int .u32 a.epoch, .int .i64 a.kind, .int .u64 a.ver, .int .u64 a.dl, .string a.id, .string a.val] 25)).heap.size = W.heap.size + 1 by simp] at B0
  have hW0 := ((Newer.refl W).alloc (.cells #[.int .u64 a.lsn, .int .u32 a.epoch, .int .i64 a.kind, .int .u64 a.ver, .int .u64 a.dl, .string a.id, .string a.val] 25)).alloc (.cells #[.int .u64 b.lsn, .int .u32 b.epoch, .int .i64 b.kind, .int .u64 b.ver, .int .u64 b.dl, .string b.id, .string b.val] 25)
  go_enter Try.func5, Try.ntmps5
  go_wp2_with (first
    | (go_at_call 9; (with_reducible refine (C1 _).mono ?_); rintro e v1 ⟨rfl, hB⟩; have A1 := A0.below hB A0.lt; have B1 := B0.below hB B0.lt; have hW1 := hW0.trans hB; clear A0 B0 hW0 hB C1; obtain ⟨cA0, cA1, cA2, cA3, cA4, cA5, cA6⟩ := cells7 A1; have lA := A1.lt; have fA := fun k => A1.frozen k; obtain ⟨cB0, cB1, cB2, cB3, cB4, cB5, cB6⟩ := cells7 B1; have lB := B1.lt; have fB := fun k => B1.frozen k)
    | (go_at_call 9; (with_reducible refine (C2 _).mono ?_); rintro e v2 ⟨rfl, hB⟩; obtain ⟨hS, hS2⟩ := set7N A1 hW1 (by simp) (.int .u64 p.lsn) (.int .u32 p.epoch) (.int .i64 p.kind) (.int .u64 p.ver) (.int .u64 p.dl) (.string p.id) (.string p.val); have A2 := hS.below hB hS.lt; have B2 := (far7 B1 (by simp) (.int .u64 p.lsn) (.int .u32 p.epoch) (.int .i64 p.kind) (.int .u64 p.ver) (.int .u64 p.dl) (.string p.id) (.string p.val)).below hB (far7 B1 (by simp) (.int .u64 p.lsn) (.int .u32 p.epoch) (.int .i64 p.kind) (.int .u64 p.ver) (.int .u64 p.dl) (.string p.id) (.string p.val)).lt; have hW2 := hS2.trans hB; clear hS hS2; clear A1 B1 hW1 hB C2; clear cA0 cA1 cA2 cA3 cA4 cA5 cA6 lA fA cB0 cB1 cB2 cB3 cB4 cB5 cB6 lB fB; obtain ⟨cA0, cA1, cA2, cA3, cA4, cA5, cA6⟩ := cells7 A2; have lA := A2.lt; have fA := fun k => A2.frozen k; obtain ⟨cB0, cB1, cB2, cB3, cB4, cB5, cB6⟩ := cells7 B2; have lB := B2.lt; have fB := fun k => B2.frozen k)
    | (go_at_call 10; (with_reducible refine (E1 _).mono ?_); rintro e v3 ⟨rfl, hB⟩; obtain ⟨hS, hS2⟩ := set7N B2 hW2 (by simp) (.int .u64 p.lsn) (.int .u32 ep2) (.int .i64 k2) (.int .u64 ver2) (.int .u64 d2) (.string i2) (.string t2); have A3 := (far7 A2 (by simp) (.int .u64 p.lsn) (.int .u32 ep2) (.int .i64 k2) (.int .u64 ver2) (.int .u64 d2) (.string i2) (.string t2)).below hB (far7 A2 (by simp) (.int .u64 p.lsn) (.int .u32 ep2) (.int .i64 k2) (.int .u64 ver2) (.int .u64 d2) (.string i2) (.string t2)).lt; have B3 := hS.below hB hS.lt; have hW3 := hS2.trans hB; clear hS hS2; clear A2 B2 hW2 hB E1; clear cA0 cA1 cA2 cA3 cA4 cA5 cA6 lA fA cB0 cB1 cB2 cB3 cB4 cB5 cB6 lB fB; obtain ⟨cA0, cA1, cA2, cA3, cA4, cA5, cA6⟩ := cells7 A3; have lA := A3.lt; have fA := fun k => A3.frozen k; obtain ⟨cB0, cB1, cB2, cB3, cB4, cB5, cB6⟩ := cells7 B3; have lB := B3.lt; have fB := fun k => B3.frozen k)
    | (go_at_call 10; (with_reducible refine (E2 _).mono ?_); rintro e v4 ⟨rfl, hB⟩; have A4 := A3.below hB A3.lt; have B4 := B3.below hB B3.lt; have hW4 := hW3.trans hB; clear A3 B3 hW3 hB E2; clear cA0 cA1 cA2 cA3 cA4 cA5 cA6 lA fA cB0 cB1 cB2 cB3 cB4 cB5 cB6 lB fB; obtain ⟨cA0, cA1, cA2, cA3, cA4, cA5, cA6⟩ := cells7 A4; have lA := A4.lt; have fA := fun k => A4.frozen k; obtain ⟨cB0, cB1, cB2, cB3, cB4, cB5, cB6⟩ := cells7 B4; have lB := B4.lt; have fB := fun k => B4.frozen k)
    )
  refine wp_region_ord Newer.grow [(0, true), (1, true), (2, true), (3, true), (4, true), (5, true), (6, true), (7, true)] [] (by kernel_rfl) (by kernel_rfl) rfl (by kernel_rfl) (by intro _ _ d _ _ h; cases d <;> exact h) ?_
  iterate 8
    (apply wpOrd_take
     · exact rfl
     · intro w1 h1
       (skip)
       go_simp
       first
         | with_reducible exact ⟨rfl, Newer.grow.refl _⟩
     simp only [Act.put, List.setIfInBounds_toArray, List.set_cons_zero, List.set_cons_succ])
  refine wpOrd_done fun w1 h1 => ?_
  have A5 := A4.below h1.undrew A4.lt
  have B5 := B4.below h1.undrew B4.lt
  have hW5 := hW4.trans h1.undrew
  clear cA0 cA1 cA2 cA3 cA4 cA5 cA6 lA cB0 cB1 cB2 cB3 cB4 cB5 cB6 lB A4 B4 hW4 h1
  obtain ⟨cA0, cA1, cA2, cA3, cA4, cA5, cA6⟩ := cells7 A5
  have lA := A5.lt
  go_wp2_with (first
    | (go_at_call 15; (with_reducible refine (M1 _).mono ?_); rintro e v6 ⟨rfl, hB⟩; have A6 := A5.below hB A5.lt; have B6 := B5.below hB B5.lt; have hW6 := hW5.trans hB; clear A5 B5 hW5 hB M1; obtain ⟨cA0, cA1, cA2, cA3, cA4, cA5, cA6⟩ := cells7 A6; have lA := A6.lt; have fA := fun k => A6.frozen k; obtain ⟨cB0, cB1, cB2, cB3, cB4, cB5, cB6⟩ := cells7 B6; have lB := B6.lt; have fB := fun k => B6.frozen k)
    | (go_at_call 15; (with_reducible refine (M2 _).mono ?_); rintro e v7 ⟨rfl, hB⟩; have A7 := A6.on _ hB; have B7 := B6.on _ hB; have hW7 := (hW6.alloc _).trans hB; have X7 := (Blk.new v6 25 #[.int .u64 p.lsn, .int .u32 p.epoch, .int .i64 p.kind, .int .u64 p.ver, .int .u64 p.dl, .string p.id, .string p.val]).below hB (Blk.new v6 25 #[.int .u64 p.lsn, .int .u32 p.epoch, .int .i64 p.kind, .int .u64 p.ver, .int .u64 p.dl, .string p.id, .string p.val]).lt; clear A6 B6 hW6 hB M2; clear cA0 cA1 cA2 cA3 cA4 cA5 cA6 lA fA cB0 cB1 cB2 cB3 cB4 cB5 cB6 lB fB)
    | (go_at_call 19; (with_reducible refine (FX _).mono ?_); rintro e v8 ⟨rfl, hB⟩; have A8 := A7.on _ hB; have B8 := B7.on _ hB; have X8 := X7.on _ hB; have hW8 := (hW7.alloc _).trans hB; have U8 := (Blk.new v7 25 #[.int .u64 0, .int .u32 0, .int .i64 0, .int .u64 0, .int .u64 0, .string ⟨#[]⟩, .string ⟨#[]⟩]).below hB (Blk.new v7 25 #[.int .u64 0, .int .u32 0, .int .i64 0, .int .u64 0, .int .u64 0, .string ⟨#[]⟩, .string ⟨#[]⟩]).lt; clear A7 B7 X7 hW7 hB FX)
    )
  go_ret
  exact ⟨rfl, hW8⟩
set_option maxRecDepth 100000 in
set_option maxHeartbeats 4000000 in
theorem torn_m01 (W : World) (a b p q : Rec) (x : Int) (ha : a.cut = p) (hb : b.cut = q) (hpf : p.Fits) (hqf : q.Fits) (hp : p.right = true) (hq : Rec.right q = true) (k : Nat) (hk : k ≤ 128) (hx : (wrap64 x).tmod 129 = (k : Int)) (hn : p.lsn ≠ q.lsn) (h1 : ¬ mixB p.sector (q.sector) k = p.sector) (h2 : mixB p.sector (q.sector) k = q.sector) :
    Calls Try.prog 5 #[a.value, b.value, .int .u8 x] W fun e w' => e = .returned (.bool true) ∧ Below W.heap.size W w' := by
  have C1 := fun u => Cut_any a u
  have C2 := fun u => Cut_any b u
  rw [ha] at C1
  rw [hb] at C2
  have E1 := fun u => encY p hpf hp u
  have z1 : (p.sector.size : Int) = 128 := by have := Rec.sector_size hp; omega
  have hx2 : (IntKind.i64.wrap x).tmod 129 = (k : Int) := by rw [IntWalk.i64_left]; exact hx
  have k0 : (0 : Int) ≤ (k : Int) := by omega
  have k1 : (k : Int) ≤ 128 := by omega
  have hne : ¬ (p.lsn = q.lsn ∧ p.epoch = q.epoch) := fun h => hn h.1
  have E2 := fun u => encY q hqf hq u
  have z2n := Rec.sector_size hq
  have hm := mixB_list (s := p.sector) z2n k
  have N1 := torn_next hp hpf (tornTail_sector hpf hq hqf hne) hk hm
  have N2 := torn_other hp hpf hq hqf hne hk hm
  have hor : (p.lsn == q.lsn) = false := by simpa using hn
  have z2 : ((q.sector).size : Int) = 128 := by omega
  have hadd : ∀ u, (Op.stringOp .add (p.sector.extract 0 k) ((q.sector).extract k (q.sector).size)).run Try.prog u = .ok (.string (mixB p.sector (q.sector) k)) u := fun u => run_add _ _ (by rw [ByteArray.size_extract]; omega) (by rw [ByteArray.size_extract]; omega) u
  rw [if_neg h1] at N1
  have M1 := fun u => nextN N1 u
  rw [if_pos h2] at N2
  have M2 := fun u => nextY N2 u
  have e1 : ((mixB p.sector (q.sector) k).toList == p.sector.toList) = false := bytes_ne h1
  have e2 : ((mixB p.sector (q.sector) k).toList == (q.sector).toList) = true := by rw [h2]; exact beq_self_eq_true _
  clear N1 hm z2n N2 hne hn
  clear h1 h2
  generalize mixB p.sector (q.sector) k = m at *
  generalize p.sector = sec at *
  generalize q.sector = sec2 at *
  clear ha hb hpf hqf hp hq hk
  have FX := fun u => fixed_any u
  unfold Rec.value at *
  have A0 := (Blk.new W 25 #[.int .u64 a.lsn, .int .u32 a.epoch, .int .i64 a.kind, .int .u64 a.ver, .int .u64 a.dl, .string a.id, .string a.val]).alloc (.cells #[.int .u64 b.lsn, .int .u32 b.epoch, .int .i64 b.kind, .int .u64 b.ver, .int .u64 b.dl, .string b.id, .string b.val] 25)
  have B0 := Blk.new (W.alloc (.cells #[.int .u64 a.lsn, .int .u32 a.epoch, .int .i64 a.kind, .int .u64 a.ver, .int .u64 a.dl, .string a.id, .string a.val] 25)) 25 #[.int .u64 b.lsn, .int .u32 b.epoch, .int .i64 b.kind, .int .u64 b.ver, .int .u64 b.dl, .string b.id, .string b.val]
  rw [show (W.alloc (.cells #[.int .u64 a.lsn, .int .u32 a.epoch, .int .i64 a.kind, .int .u64 a.ver, .int .u64 a.dl, .string a.id, .string a.val] 25)).heap.size = W.heap.size + 1 by simp] at B0
  have hW0 := ((Newer.refl W).alloc (.cells #[.int .u64 a.lsn, .int .u32 a.epoch, .int .i64 a.kind, .int .u64 a.ver, .int .u64 a.dl, .string a.id, .string a.val] 25)).alloc (.cells #[.int .u64 b.lsn, .int .u32 b.epoch, .int .i64 b.kind, .int .u64 b.ver, .int .u64 b.dl, .string b.id, .string b.val] 25)
  go_enter Try.func5, Try.ntmps5
  go_wp2_with (first
    | (go_at_call 9; (with_reducible refine (C1 _).mono ?_); rintro e v1 ⟨rfl, hB⟩; have A1 := A0.below hB A0.lt; have B1 := B0.below hB B0.lt; have hW1 := hW0.trans hB; clear A0 B0 hW0 hB C1; obtain ⟨cA0, cA1, cA2, cA3, cA4, cA5, cA6⟩ := cells7 A1; have lA := A1.lt; have fA := fun k => A1.frozen k; obtain ⟨cB0, cB1, cB2, cB3, cB4, cB5, cB6⟩ := cells7 B1; have lB := B1.lt; have fB := fun k => B1.frozen k)
    | (go_at_call 9; (with_reducible refine (C2 _).mono ?_); rintro e v2 ⟨rfl, hB⟩; obtain ⟨hS, hS2⟩ := set7N A1 hW1 (by simp) (.int .u64 p.lsn) (.int .u32 p.epoch) (.int .i64 p.kind) (.int .u64 p.ver) (.int .u64 p.dl) (.string p.id) (.string p.val); have A2 := hS.below hB hS.lt; have B2 := (far7 B1 (by simp) (.int .u64 p.lsn) (.int .u32 p.epoch) (.int .i64 p.kind) (.int .u64 p.ver) (.int .u64 p.dl) (.string p.id) (.string p.val)).below hB (far7 B1 (by simp) (.int .u64 p.lsn) (.int .u32 p.epoch) (.int .i64 p.kind) (.int .u64 p.ver) (.int .u64 p.dl) (.string p.id) (.string p.val)).lt; have hW2 := hS2.trans hB; clear hS hS2; clear A1 B1 hW1 hB C2; clear cA0 cA1 cA2 cA3 cA4 cA5 cA6 lA fA cB0 cB1 cB2 cB3 cB4 cB5 cB6 lB fB; obtain ⟨cA0, cA1, cA2, cA3, cA4, cA5, cA6⟩ := cells7 A2; have lA := A2.lt; have fA := fun k => A2.frozen k; obtain ⟨cB0, cB1, cB2, cB3, cB4, cB5, cB6⟩ := cells7 B2; have lB := B2.lt; have fB := fun k => B2.frozen k)
    | (go_at_call 10; (with_reducible refine (E1 _).mono ?_); rintro e v3 ⟨rfl, hB⟩; obtain ⟨hS, hS2⟩ := set7N B2 hW2 (by simp) (.int .u64 q.lsn) (.int .u32 q.epoch) (.int .i64 q.kind) (.int .u64 q.ver) (.int .u64 q.dl) (.string q.id) (.string q.val); have A3 := (far7 A2 (by simp) (.int .u64 q.lsn) (.int .u32 q.epoch) (.int .i64 q.kind) (.int .u64 q.ver) (.int .u64 q.dl) (.string q.id) (.string q.val)).below hB (far7 A2 (by simp) (.int .u64 q.lsn) (.int .u32 q.epoch) (.int .i64 q.kind) (.int .u64 q.ver) (.int .u64 q.dl) (.string q.id) (.string q.val)).lt; have B3 := hS.below hB hS.lt; have hW3 := hS2.trans hB; clear hS hS2; clear A2 B2 hW2 hB E1; clear cA0 cA1 cA2 cA3 cA4 cA5 cA6 lA fA cB0 cB1 cB2 cB3 cB4 cB5 cB6 lB fB; obtain ⟨cA0, cA1, cA2, cA3, cA4, cA5, cA6⟩ := cells7 A3; have lA := A3.lt; have fA := fun k => A3.frozen k; obtain ⟨cB0, cB1, cB2, cB3, cB4, cB5, cB6⟩ := cells7 B3; have lB := B3.lt; have fB := fun k => B3.frozen k)
    | (go_at_call 10; (with_reducible refine (E2 _).mono ?_); rintro e v4 ⟨rfl, hB⟩; have A4 := A3.below hB A3.lt; have B4 := B3.below hB B3.lt; have hW4 := hW3.trans hB; clear A3 B3 hW3 hB E2; clear cA0 cA1 cA2 cA3 cA4 cA5 cA6 lA fA cB0 cB1 cB2 cB3 cB4 cB5 cB6 lB fB; obtain ⟨cA0, cA1, cA2, cA3, cA4, cA5, cA6⟩ := cells7 A4; have lA := A4.lt; have fA := fun k => A4.frozen k; obtain ⟨cB0, cB1, cB2, cB3, cB4, cB5, cB6⟩ := cells7 B4; have lB := B4.lt; have fB := fun k => B4.frozen k)
    )
  refine wp_region_ord Newer.grow [(0, true), (1, true), (2, true), (3, true), (4, true), (5, true), (6, true), (7, true)] [] (by kernel_rfl) (by kernel_rfl) rfl (by kernel_rfl) (by intro _ _ d _ _ h; cases d <;> exact h) ?_
  iterate 8
    (apply wpOrd_take
     · exact rfl
     · intro w1 h1
       (skip)
       go_simp
       first
         | with_reducible exact ⟨rfl, Newer.grow.refl _⟩
     simp only [Act.put, List.setIfInBounds_toArray, List.set_cons_zero, List.set_cons_succ])
  refine wpOrd_done fun w1 h1 => ?_
  have A5 := A4.below h1.undrew A4.lt
  have B5 := B4.below h1.undrew B4.lt
  have hW5 := hW4.trans h1.undrew
  clear cA0 cA1 cA2 cA3 cA4 cA5 cA6 lA cB0 cB1 cB2 cB3 cB4 cB5 cB6 lB A4 B4 hW4 h1
  obtain ⟨cA0, cA1, cA2, cA3, cA4, cA5, cA6⟩ := cells7 A5
  have lA := A5.lt
  go_wp2_with (first
    | (go_at_call 15; (with_reducible refine (M1 _).mono ?_); rintro e v6 ⟨rfl, hB⟩; have A6 := A5.below hB A5.lt; have B6 := B5.below hB B5.lt; have hW6 := hW5.trans hB; clear A5 B5 hW5 hB M1; obtain ⟨cA0, cA1, cA2, cA3, cA4, cA5, cA6⟩ := cells7 A6; have lA := A6.lt; have fA := fun k => A6.frozen k; obtain ⟨cB0, cB1, cB2, cB3, cB4, cB5, cB6⟩ := cells7 B6; have lB := B6.lt; have fB := fun k => B6.frozen k)
    | (go_at_call 15; (with_reducible refine (M2 _).mono ?_); rintro e v7 ⟨rfl, hB⟩; have A7 := A6.on _ hB; have B7 := B6.on _ hB; have hW7 := (hW6.alloc _).trans hB; have X7 := (Blk.new v6 25 #[.int .u64 0, .int .u32 0, .int .i64 0, .int .u64 0, .int .u64 0, .string ⟨#[]⟩, .string ⟨#[]⟩]).below hB (Blk.new v6 25 #[.int .u64 0, .int .u32 0, .int .i64 0, .int .u64 0, .int .u64 0, .string ⟨#[]⟩, .string ⟨#[]⟩]).lt; clear A6 B6 hW6 hB M2; clear cA0 cA1 cA2 cA3 cA4 cA5 cA6 lA fA cB0 cB1 cB2 cB3 cB4 cB5 cB6 lB fB)
    | (go_at_call 19; (with_reducible refine (FX _).mono ?_); rintro e v8 ⟨rfl, hB⟩; have A8 := A7.on _ hB; have B8 := B7.on _ hB; have X8 := X7.on _ hB; have hW8 := (hW7.alloc _).trans hB; have U8 := (Blk.new v7 25 #[.int .u64 q.lsn, .int .u32 q.epoch, .int .i64 q.kind, .int .u64 q.ver, .int .u64 q.dl, .string q.id, .string q.val]).below hB (Blk.new v7 25 #[.int .u64 q.lsn, .int .u32 q.epoch, .int .i64 q.kind, .int .u64 q.ver, .int .u64 q.dl, .string q.id, .string q.val]).lt; clear A7 B7 X7 hW7 hB FX)
    )
  go_ret
  exact ⟨rfl, hW8⟩
set_option maxRecDepth 100000 in
set_option maxHeartbeats 4000000 in
theorem torn_e01 (W : World) (a b p : Rec) (ep2 k2 ver2 d2 : Int) (i2 t2 : ByteArray) (x : Int) (ha : a.cut = p) (hb : b.cut = (⟨p.lsn, ep2, k2, ver2, d2, i2, t2⟩ : Rec)) (hpf : p.Fits) (hqf : Rec.Fits (⟨p.lsn, ep2, k2, ver2, d2, i2, t2⟩ : Rec)) (hp : p.right = true) (hq : Rec.right (⟨p.lsn, ep2, k2, ver2, d2, i2, t2⟩ : Rec) = true) (k : Nat) (hk : k ≤ 128) (hx : (wrap64 x).tmod 129 = (k : Int)) (hn : p.epoch ≠ ep2) (h1 : ¬ mixB p.sector ((⟨p.lsn, ep2, k2, ver2, d2, i2, t2⟩ : Rec).sector) k = p.sector) (h2 : mixB p.sector ((⟨p.lsn, ep2, k2, ver2, d2, i2, t2⟩ : Rec).sector) k = (⟨p.lsn, ep2, k2, ver2, d2, i2, t2⟩ : Rec).sector) :
    Calls Try.prog 5 #[a.value, b.value, .int .u8 x] W fun e w' => e = .returned (.bool true) ∧ Below W.heap.size W w' := by
  have C1 := fun u => Cut_any a u
  have C2 := fun u => Cut_any b u
  rw [ha] at C1
  rw [hb] at C2
  have E1 := fun u => encY p hpf hp u
  have z1 : (p.sector.size : Int) = 128 := by have := Rec.sector_size hp; omega
  have hx2 : (IntKind.i64.wrap x).tmod 129 = (k : Int) := by rw [IntWalk.i64_left]; exact hx
  have k0 : (0 : Int) ≤ (k : Int) := by omega
  have k1 : (k : Int) ≤ 128 := by omega
  have hne : ¬ (p.lsn = p.lsn ∧ p.epoch = ep2) := fun h => hn h.2
  have E2 := fun u => encY (⟨p.lsn, ep2, k2, ver2, d2, i2, t2⟩ : Rec) hqf hq u
  have z2n := Rec.sector_size (r := (⟨p.lsn, ep2, k2, ver2, d2, i2, t2⟩ : Rec)) hq
  have hm := mixB_list (s := p.sector) z2n k
  have N1 := torn_next hp hpf (tornTail_sector hpf hq hqf hne) hk hm
  have N2 := torn_other hp hpf hq hqf hne hk hm
  have hor : (p.epoch == ep2) = false := by simpa using hn
  have z2 : (((⟨p.lsn, ep2, k2, ver2, d2, i2, t2⟩ : Rec).sector).size : Int) = 128 := by omega
  have hadd : ∀ u, (Op.stringOp .add (p.sector.extract 0 k) (((⟨p.lsn, ep2, k2, ver2, d2, i2, t2⟩ : Rec).sector).extract k ((⟨p.lsn, ep2, k2, ver2, d2, i2, t2⟩ : Rec).sector).size)).run Try.prog u = .ok (.string (mixB p.sector ((⟨p.lsn, ep2, k2, ver2, d2, i2, t2⟩ : Rec).sector) k)) u := fun u => run_add _ _ (by rw [ByteArray.size_extract]; omega) (by rw [ByteArray.size_extract]; omega) u
  rw [if_neg h1] at N1
  have M1 := fun u => nextN N1 u
  rw [if_pos h2] at N2
  have M2 := fun u => nextY N2 u
  have e1 : ((mixB p.sector ((⟨p.lsn, ep2, k2, ver2, d2, i2, t2⟩ : Rec).sector) k).toList == p.sector.toList) = false := bytes_ne h1
  have e2 : ((mixB p.sector ((⟨p.lsn, ep2, k2, ver2, d2, i2, t2⟩ : Rec).sector) k).toList == ((⟨p.lsn, ep2, k2, ver2, d2, i2, t2⟩ : Rec).sector).toList) = true := by rw [h2]; exact beq_self_eq_true _
  clear N1 hm z2n N2 hne hn
  clear h1 h2
  generalize mixB p.sector ((⟨p.lsn, ep2, k2, ver2, d2, i2, t2⟩ : Rec).sector) k = m at *
  generalize p.sector = sec at *
  generalize (⟨p.lsn, ep2, k2, ver2, d2, i2, t2⟩ : Rec).sector = sec2 at *
  clear ha hb hpf hqf hp hq hk
  have FX := fun u => fixed_any u
  unfold Rec.value at *
  dsimp only at *
  have A0 := (Blk.new W 25 #[.int .u64 a.lsn, .int .u32 a.epoch, .int .i64 a.kind, .int .u64 a.ver, .int .u64 a.dl, .string a.id, .string a.val]).alloc (.cells #[.int .u64 b.lsn, .int .u32 b.epoch, .int .i64 b.kind, .int .u64 b.ver, .int .u64 b.dl, .string b.id, .string b.val] 25)
  have B0 := Blk.new (W.alloc (.cells #[.int .u64 a.lsn, .int .u32 a.epoch, .int .i64 a.kind, .int .u64 a.ver, .int .u64 a.dl, .string a.id, .string a.val] 25)) 25 #[.int .u64 b.lsn, .int .u32 b.epoch, .int .i64 b.kind, .int .u64 b.ver, .int .u64 b.dl, .string b.id, .string b.val]
  rw [show (W.alloc (.cells #[.int .u64 a.lsn, .int .u32 a.epoch, .int .i64 a.kind, .int .u64 a.ver, .int .u64 a.dl, .string a.id, .string a.val] 25)).heap.size = W.heap.size + 1 by simp] at B0
  have hW0 := ((Newer.refl W).alloc (.cells #[.int .u64 a.lsn, .int .u32 a.epoch, .int .i64 a.kind, .int .u64 a.ver, .int .u64 a.dl, .string a.id, .string a.val] 25)).alloc (.cells #[.int .u64 b.lsn, .int .u32 b.epoch, .int .i64 b.kind, .int .u64 b.ver, .int .u64 b.dl, .string b.id, .string b.val] 25)
  go_enter Try.func5, Try.ntmps5
  go_wp2_with (first
    | (go_at_call 9; (with_reducible refine (C1 _).mono ?_); rintro e v1 ⟨rfl, hB⟩; have A1 := A0.below hB A0.lt; have B1 := B0.below hB B0.lt; have hW1 := hW0.trans hB; clear A0 B0 hW0 hB C1; obtain ⟨cA0, cA1, cA2, cA3, cA4, cA5, cA6⟩ := cells7 A1; have lA := A1.lt; have fA := fun k => A1.frozen k; obtain ⟨cB0, cB1, cB2, cB3, cB4, cB5, cB6⟩ := cells7 B1; have lB := B1.lt; have fB := fun k => B1.frozen k)
    | (go_at_call 9; (with_reducible refine (C2 _).mono ?_); rintro e v2 ⟨rfl, hB⟩; obtain ⟨hS, hS2⟩ := set7N A1 hW1 (by simp) (.int .u64 p.lsn) (.int .u32 p.epoch) (.int .i64 p.kind) (.int .u64 p.ver) (.int .u64 p.dl) (.string p.id) (.string p.val); have A2 := hS.below hB hS.lt; have B2 := (far7 B1 (by simp) (.int .u64 p.lsn) (.int .u32 p.epoch) (.int .i64 p.kind) (.int .u64 p.ver) (.int .u64 p.dl) (.string p.id) (.string p.val)).below hB (far7 B1 (by simp) (.int .u64 p.lsn) (.int .u32 p.epoch) (.int .i64 p.kind) (.int .u64 p.ver) (.int .u64 p.dl) (.string p.id) (.string p.val)).lt; have hW2 := hS2.trans hB; clear hS hS2; clear A1 B1 hW1 hB C2; clear cA0 cA1 cA2 cA3 cA4 cA5 cA6 lA fA cB0 cB1 cB2 cB3 cB4 cB5 cB6 lB fB; obtain ⟨cA0, cA1, cA2, cA3, cA4, cA5, cA6⟩ := cells7 A2; have lA := A2.lt; have fA := fun k => A2.frozen k; obtain ⟨cB0, cB1, cB2, cB3, cB4, cB5, cB6⟩ := cells7 B2; have lB := B2.lt; have fB := fun k => B2.frozen k)
    | (go_at_call 10; (with_reducible refine (E1 _).mono ?_); rintro e v3 ⟨rfl, hB⟩; obtain ⟨hS, hS2⟩ := set7N B2 hW2 (by simp) (.int .u64 p.lsn) (.int .u32 ep2) (.int .i64 k2) (.int .u64 ver2) (.int .u64 d2) (.string i2) (.string t2); have A3 := (far7 A2 (by simp) (.int .u64 p.lsn) (.int .u32 ep2) (.int .i64 k2) (.int .u64 ver2) (.int .u64 d2) (.string i2) (.string t2)).below hB (far7 A2 (by simp) (.int .u64 p.lsn) (.int .u32 ep2) (.int .i64 k2) (.int .u64 ver2) (.int .u64 d2) (.string i2) (.string t2)).lt; have B3 := hS.below hB hS.lt; have hW3 := hS2.trans hB; clear hS hS2; clear A2 B2 hW2 hB E1; clear cA0 cA1 cA2 cA3 cA4 cA5 cA6 lA fA cB0 cB1 cB2 cB3 cB4 cB5 cB6 lB fB; obtain ⟨cA0, cA1, cA2, cA3, cA4, cA5, cA6⟩ := cells7 A3; have lA := A3.lt; have fA := fun k => A3.frozen k; obtain ⟨cB0, cB1, cB2, cB3, cB4, cB5, cB6⟩ := cells7 B3; have lB := B3.lt; have fB := fun k => B3.frozen k)
    | (go_at_call 10; (with_reducible refine (E2 _).mono ?_); rintro e v4 ⟨rfl, hB⟩; have A4 := A3.below hB A3.lt; have B4 := B3.below hB B3.lt; have hW4 := hW3.trans hB; clear A3 B3 hW3 hB E2; clear cA0 cA1 cA2 cA3 cA4 cA5 cA6 lA fA cB0 cB1 cB2 cB3 cB4 cB5 cB6 lB fB; obtain ⟨cA0, cA1, cA2, cA3, cA4, cA5, cA6⟩ := cells7 A4; have lA := A4.lt; have fA := fun k => A4.frozen k; obtain ⟨cB0, cB1, cB2, cB3, cB4, cB5, cB6⟩ := cells7 B4; have lB := B4.lt; have fB := fun k => B4.frozen k)
    )
  refine wp_region_ord Newer.grow [(0, true), (1, true), (2, true), (3, true), (4, true), (5, true), (6, true), (7, true)] [] (by kernel_rfl) (by kernel_rfl) rfl (by kernel_rfl) (by intro _ _ d _ _ h; cases d <;> exact h) ?_
  iterate 8
    (apply wpOrd_take
     · exact rfl
     · intro w1 h1
       (skip)
       go_simp
       first
         | with_reducible exact ⟨rfl, Newer.grow.refl _⟩
     simp only [Act.put, List.setIfInBounds_toArray, List.set_cons_zero, List.set_cons_succ])
  refine wpOrd_done fun w1 h1 => ?_
  have A5 := A4.below h1.undrew A4.lt
  have B5 := B4.below h1.undrew B4.lt
  have hW5 := hW4.trans h1.undrew
  clear cA0 cA1 cA2 cA3 cA4 cA5 cA6 lA cB0 cB1 cB2 cB3 cB4 cB5 cB6 lB A4 B4 hW4 h1
  obtain ⟨cA0, cA1, cA2, cA3, cA4, cA5, cA6⟩ := cells7 A5
  have lA := A5.lt
  go_wp2_with (first
    | (go_at_call 15; (with_reducible refine (M1 _).mono ?_); rintro e v6 ⟨rfl, hB⟩; have A6 := A5.below hB A5.lt; have B6 := B5.below hB B5.lt; have hW6 := hW5.trans hB; clear A5 B5 hW5 hB M1; obtain ⟨cA0, cA1, cA2, cA3, cA4, cA5, cA6⟩ := cells7 A6; have lA := A6.lt; have fA := fun k => A6.frozen k; obtain ⟨cB0, cB1, cB2, cB3, cB4, cB5, cB6⟩ := cells7 B6; have lB := B6.lt; have fB := fun k => B6.frozen k)
    | (go_at_call 15; (with_reducible refine (M2 _).mono ?_); rintro e v7 ⟨rfl, hB⟩; have A7 := A6.on _ hB; have B7 := B6.on _ hB; have hW7 := (hW6.alloc _).trans hB; have X7 := (Blk.new v6 25 #[.int .u64 0, .int .u32 0, .int .i64 0, .int .u64 0, .int .u64 0, .string ⟨#[]⟩, .string ⟨#[]⟩]).below hB (Blk.new v6 25 #[.int .u64 0, .int .u32 0, .int .i64 0, .int .u64 0, .int .u64 0, .string ⟨#[]⟩, .string ⟨#[]⟩]).lt; clear A6 B6 hW6 hB M2; clear cA0 cA1 cA2 cA3 cA4 cA5 cA6 lA fA cB0 cB1 cB2 cB3 cB4 cB5 cB6 lB fB)
    | (go_at_call 19; (with_reducible refine (FX _).mono ?_); rintro e v8 ⟨rfl, hB⟩; have A8 := A7.on _ hB; have B8 := B7.on _ hB; have X8 := X7.on _ hB; have hW8 := (hW7.alloc _).trans hB; have U8 := (Blk.new v7 25 #[.int .u64 p.lsn, .int .u32 ep2, .int .i64 k2, .int .u64 ver2, .int .u64 d2, .string i2, .string t2]).below hB (Blk.new v7 25 #[.int .u64 p.lsn, .int .u32 ep2, .int .i64 k2, .int .u64 ver2, .int .u64 d2, .string i2, .string t2]).lt; clear A7 B7 X7 hW7 hB FX)
    )
  go_ret
  exact ⟨rfl, hW8⟩
set_option maxRecDepth 100000 in
set_option maxHeartbeats 4000000 in
theorem torn_m00 (W : World) (a b p q : Rec) (x : Int) (ha : a.cut = p) (hb : b.cut = q) (hpf : p.Fits) (hqf : q.Fits) (hp : p.right = true) (hq : Rec.right q = true) (k : Nat) (hk : k ≤ 128) (hx : (wrap64 x).tmod 129 = (k : Int)) (hn : p.lsn ≠ q.lsn) (h1 : ¬ mixB p.sector (q.sector) k = p.sector) (h2 : ¬ mixB p.sector (q.sector) k = q.sector) :
    Calls Try.prog 5 #[a.value, b.value, .int .u8 x] W fun e w' => e = .returned (.bool true) ∧ Below W.heap.size W w' := by
  have C1 := fun u => Cut_any a u
  have C2 := fun u => Cut_any b u
  rw [ha] at C1
  rw [hb] at C2
  have E1 := fun u => encY p hpf hp u
  have z1 : (p.sector.size : Int) = 128 := by have := Rec.sector_size hp; omega
  have hx2 : (IntKind.i64.wrap x).tmod 129 = (k : Int) := by rw [IntWalk.i64_left]; exact hx
  have k0 : (0 : Int) ≤ (k : Int) := by omega
  have k1 : (k : Int) ≤ 128 := by omega
  have hne : ¬ (p.lsn = q.lsn ∧ p.epoch = q.epoch) := fun h => hn h.1
  have E2 := fun u => encY q hqf hq u
  have z2n := Rec.sector_size hq
  have hm := mixB_list (s := p.sector) z2n k
  have N1 := torn_next hp hpf (tornTail_sector hpf hq hqf hne) hk hm
  have N2 := torn_other hp hpf hq hqf hne hk hm
  have hor : (p.lsn == q.lsn) = false := by simpa using hn
  have z2 : ((q.sector).size : Int) = 128 := by omega
  have hadd : ∀ u, (Op.stringOp .add (p.sector.extract 0 k) ((q.sector).extract k (q.sector).size)).run Try.prog u = .ok (.string (mixB p.sector (q.sector) k)) u := fun u => run_add _ _ (by rw [ByteArray.size_extract]; omega) (by rw [ByteArray.size_extract]; omega) u
  rw [if_neg h1] at N1
  have M1 := fun u => nextN N1 u
  rw [if_neg h2] at N2
  have M2 := fun u => nextN N2 u
  have e1 : ((mixB p.sector (q.sector) k).toList == p.sector.toList) = false := bytes_ne h1
  have e2 : ((mixB p.sector (q.sector) k).toList == (q.sector).toList) = false := bytes_ne h2
  clear N1 hm z2n N2 hne hn
  clear h1 h2
  generalize mixB p.sector (q.sector) k = m at *
  generalize p.sector = sec at *
  generalize q.sector = sec2 at *
  clear ha hb hpf hqf hp hq hk
  have FX := fun u => fixed_any u
  unfold Rec.value at *
  have A0 := (Blk.new W 25 #[.int .u64 a.lsn, .int .u32 a.epoch, .int .i64 a.kind, .int .u64 a.ver, .int .u64 a.dl, .string a.id, .string a.val]).alloc (.cells #[.int .u64 b.lsn, .int .u32 b.epoch, .int .i64 b.kind, .int .u64 b.ver, .int .u64 b.dl, .string b.id, .string b.val] 25)
  have B0 := Blk.new (W.alloc (.cells #[.int .u64 a.lsn, .int .u32 a.epoch, .int .i64 a.kind, .int .u64 a.ver, .int .u64 a.dl, .string a.id, .string a.val] 25)) 25 #[.int .u64 b.lsn, .int .u32 b.epoch, .int .i64 b.kind, .int .u64 b.ver, .int .u64 b.dl, .string b.id, .string b.val]
  rw [show (W.alloc (.cells #[.int .u64 a.lsn, .int .u32 a.epoch, .int .i64 a.kind, .int .u64 a.ver, .int .u64 a.dl, .string a.id, .string a.val] 25)).heap.size = W.heap.size + 1 by simp] at B0
  have hW0 := ((Newer.refl W).alloc (.cells #[.int .u64 a.lsn, .int .u32 a.epoch, .int .i64 a.kind, .int .u64 a.ver, .int .u64 a.dl, .string a.id, .string a.val] 25)).alloc (.cells #[.int .u64 b.lsn, .int .u32 b.epoch, .int .i64 b.kind, .int .u64 b.ver, .int .u64 b.dl, .string b.id, .string b.val] 25)
  go_enter Try.func5, Try.ntmps5
  go_wp2_with (first
    | (go_at_call 9; (with_reducible refine (C1 _).mono ?_); rintro e v1 ⟨rfl, hB⟩; have A1 := A0.below hB A0.lt; have B1 := B0.below hB B0.lt; have hW1 := hW0.trans hB; clear A0 B0 hW0 hB C1; obtain ⟨cA0, cA1, cA2, cA3, cA4, cA5, cA6⟩ := cells7 A1; have lA := A1.lt; have fA := fun k => A1.frozen k; obtain ⟨cB0, cB1, cB2, cB3, cB4, cB5, cB6⟩ := cells7 B1; have lB := B1.lt; have fB := fun k => B1.frozen k)
    | (go_at_call 9; (with_reducible refine (C2 _).mono ?_); rintro e v2 ⟨rfl, hB⟩; obtain ⟨hS, hS2⟩ := set7N A1 hW1 (by simp) (.int .u64 p.lsn) (.int .u32 p.epoch) (.int .i64 p.kind) (.int .u64 p.ver) (.int .u64 p.dl) (.string p.id) (.string p.val); have A2 := hS.below hB hS.lt; have B2 := (far7 B1 (by simp) (.int .u64 p.lsn) (.int .u32 p.epoch) (.int .i64 p.kind) (.int .u64 p.ver) (.int .u64 p.dl) (.string p.id) (.string p.val)).below hB (far7 B1 (by simp) (.int .u64 p.lsn) (.int .u32 p.epoch) (.int .i64 p.kind) (.int .u64 p.ver) (.int .u64 p.dl) (.string p.id) (.string p.val)).lt; have hW2 := hS2.trans hB; clear hS hS2; clear A1 B1 hW1 hB C2; clear cA0 cA1 cA2 cA3 cA4 cA5 cA6 lA fA cB0 cB1 cB2 cB3 cB4 cB5 cB6 lB fB; obtain ⟨cA0, cA1, cA2, cA3, cA4, cA5, cA6⟩ := cells7 A2; have lA := A2.lt; have fA := fun k => A2.frozen k; obtain ⟨cB0, cB1, cB2, cB3, cB4, cB5, cB6⟩ := cells7 B2; have lB := B2.lt; have fB := fun k => B2.frozen k)
    | (go_at_call 10; (with_reducible refine (E1 _).mono ?_); rintro e v3 ⟨rfl, hB⟩; obtain ⟨hS, hS2⟩ := set7N B2 hW2 (by simp) (.int .u64 q.lsn) (.int .u32 q.epoch) (.int .i64 q.kind) (.int .u64 q.ver) (.int .u64 q.dl) (.string q.id) (.string q.val); have A3 := (far7 A2 (by simp) (.int .u64 q.lsn) (.int .u32 q.epoch) (.int .i64 q.kind) (.int .u64 q.ver) (.int .u64 q.dl) (.string q.id) (.string q.val)).below hB (far7 A2 (by simp) (.int .u64 q.lsn) (.int .u32 q.epoch) (.int .i64 q.kind) (.int .u64 q.ver) (.int .u64 q.dl) (.string q.id) (.string q.val)).lt; have B3 := hS.below hB hS.lt; have hW3 := hS2.trans hB; clear hS hS2; clear A2 B2 hW2 hB E1; clear cA0 cA1 cA2 cA3 cA4 cA5 cA6 lA fA cB0 cB1 cB2 cB3 cB4 cB5 cB6 lB fB; obtain ⟨cA0, cA1, cA2, cA3, cA4, cA5, cA6⟩ := cells7 A3; have lA := A3.lt; have fA := fun k => A3.frozen k; obtain ⟨cB0, cB1, cB2, cB3, cB4, cB5, cB6⟩ := cells7 B3; have lB := B3.lt; have fB := fun k => B3.frozen k)
    | (go_at_call 10; (with_reducible refine (E2 _).mono ?_); rintro e v4 ⟨rfl, hB⟩; have A4 := A3.below hB A3.lt; have B4 := B3.below hB B3.lt; have hW4 := hW3.trans hB; clear A3 B3 hW3 hB E2; clear cA0 cA1 cA2 cA3 cA4 cA5 cA6 lA fA cB0 cB1 cB2 cB3 cB4 cB5 cB6 lB fB; obtain ⟨cA0, cA1, cA2, cA3, cA4, cA5, cA6⟩ := cells7 A4; have lA := A4.lt; have fA := fun k => A4.frozen k; obtain ⟨cB0, cB1, cB2, cB3, cB4, cB5, cB6⟩ := cells7 B4; have lB := B4.lt; have fB := fun k => B4.frozen k)
    )
  refine wp_region_ord Newer.grow [(0, true), (1, true), (2, true), (3, true), (4, true), (5, true), (6, true), (7, true)] [] (by kernel_rfl) (by kernel_rfl) rfl (by kernel_rfl) (by intro _ _ d _ _ h; cases d <;> exact h) ?_
  iterate 8
    (apply wpOrd_take
     · exact rfl
     · intro w1 h1
       (skip)
       go_simp
       first
         | with_reducible exact ⟨rfl, Newer.grow.refl _⟩
     simp only [Act.put, List.setIfInBounds_toArray, List.set_cons_zero, List.set_cons_succ])
  refine wpOrd_done fun w1 h1 => ?_
  have A5 := A4.below h1.undrew A4.lt
  have B5 := B4.below h1.undrew B4.lt
  have hW5 := hW4.trans h1.undrew
  clear cA0 cA1 cA2 cA3 cA4 cA5 cA6 lA cB0 cB1 cB2 cB3 cB4 cB5 cB6 lB A4 B4 hW4 h1
  obtain ⟨cA0, cA1, cA2, cA3, cA4, cA5, cA6⟩ := cells7 A5
  have lA := A5.lt
  go_wp2_with (first
    | (go_at_call 15; (with_reducible refine (M1 _).mono ?_); rintro e v6 ⟨rfl, hB⟩; have A6 := A5.below hB A5.lt; have B6 := B5.below hB B5.lt; have hW6 := hW5.trans hB; clear A5 B5 hW5 hB M1; obtain ⟨cA0, cA1, cA2, cA3, cA4, cA5, cA6⟩ := cells7 A6; have lA := A6.lt; have fA := fun k => A6.frozen k; obtain ⟨cB0, cB1, cB2, cB3, cB4, cB5, cB6⟩ := cells7 B6; have lB := B6.lt; have fB := fun k => B6.frozen k)
    | (go_at_call 15; (with_reducible refine (M2 _).mono ?_); rintro e v7 ⟨rfl, hB⟩; have A7 := A6.on _ hB; have B7 := B6.on _ hB; have hW7 := (hW6.alloc _).trans hB; have X7 := (Blk.new v6 25 #[.int .u64 0, .int .u32 0, .int .i64 0, .int .u64 0, .int .u64 0, .string ⟨#[]⟩, .string ⟨#[]⟩]).below hB (Blk.new v6 25 #[.int .u64 0, .int .u32 0, .int .i64 0, .int .u64 0, .int .u64 0, .string ⟨#[]⟩, .string ⟨#[]⟩]).lt; clear A6 B6 hW6 hB M2; clear cA0 cA1 cA2 cA3 cA4 cA5 cA6 lA fA cB0 cB1 cB2 cB3 cB4 cB5 cB6 lB fB)
    | (go_at_call 19; (with_reducible refine (FX _).mono ?_); rintro e v8 ⟨rfl, hB⟩; have A8 := A7.on _ hB; have B8 := B7.on _ hB; have X8 := X7.on _ hB; have hW8 := (hW7.alloc _).trans hB; have U8 := (Blk.new v7 25 #[.int .u64 0, .int .u32 0, .int .i64 0, .int .u64 0, .int .u64 0, .string ⟨#[]⟩, .string ⟨#[]⟩]).below hB (Blk.new v7 25 #[.int .u64 0, .int .u32 0, .int .i64 0, .int .u64 0, .int .u64 0, .string ⟨#[]⟩, .string ⟨#[]⟩]).lt; clear A7 B7 X7 hW7 hB FX)
    )
  go_ret
  exact ⟨rfl, hW8⟩
set_option maxRecDepth 100000 in
set_option maxHeartbeats 4000000 in
theorem torn_e00 (W : World) (a b p : Rec) (ep2 k2 ver2 d2 : Int) (i2 t2 : ByteArray) (x : Int) (ha : a.cut = p) (hb : b.cut = (⟨p.lsn, ep2, k2, ver2, d2, i2, t2⟩ : Rec)) (hpf : p.Fits) (hqf : Rec.Fits (⟨p.lsn, ep2, k2, ver2, d2, i2, t2⟩ : Rec)) (hp : p.right = true) (hq : Rec.right (⟨p.lsn, ep2, k2, ver2, d2, i2, t2⟩ : Rec) = true) (k : Nat) (hk : k ≤ 128) (hx : (wrap64 x).tmod 129 = (k : Int)) (hn : p.epoch ≠ ep2) (h1 : ¬ mixB p.sector ((⟨p.lsn, ep2, k2, ver2, d2, i2, t2⟩ : Rec).sector) k = p.sector) (h2 : ¬ mixB p.sector ((⟨p.lsn, ep2, k2, ver2, d2, i2, t2⟩ : Rec).sector) k = (⟨p.lsn, ep2, k2, ver2, d2, i2, t2⟩ : Rec).sector) :
    Calls Try.prog 5 #[a.value, b.value, .int .u8 x] W fun e w' => e = .returned (.bool true) ∧ Below W.heap.size W w' := by
  have C1 := fun u => Cut_any a u
  have C2 := fun u => Cut_any b u
  rw [ha] at C1
  rw [hb] at C2
  have E1 := fun u => encY p hpf hp u
  have z1 : (p.sector.size : Int) = 128 := by have := Rec.sector_size hp; omega
  have hx2 : (IntKind.i64.wrap x).tmod 129 = (k : Int) := by rw [IntWalk.i64_left]; exact hx
  have k0 : (0 : Int) ≤ (k : Int) := by omega
  have k1 : (k : Int) ≤ 128 := by omega
  have hne : ¬ (p.lsn = p.lsn ∧ p.epoch = ep2) := fun h => hn h.2
  have E2 := fun u => encY (⟨p.lsn, ep2, k2, ver2, d2, i2, t2⟩ : Rec) hqf hq u
  have z2n := Rec.sector_size (r := (⟨p.lsn, ep2, k2, ver2, d2, i2, t2⟩ : Rec)) hq
  have hm := mixB_list (s := p.sector) z2n k
  have N1 := torn_next hp hpf (tornTail_sector hpf hq hqf hne) hk hm
  have N2 := torn_other hp hpf hq hqf hne hk hm
  have hor : (p.epoch == ep2) = false := by simpa using hn
  have z2 : (((⟨p.lsn, ep2, k2, ver2, d2, i2, t2⟩ : Rec).sector).size : Int) = 128 := by omega
  have hadd : ∀ u, (Op.stringOp .add (p.sector.extract 0 k) (((⟨p.lsn, ep2, k2, ver2, d2, i2, t2⟩ : Rec).sector).extract k ((⟨p.lsn, ep2, k2, ver2, d2, i2, t2⟩ : Rec).sector).size)).run Try.prog u = .ok (.string (mixB p.sector ((⟨p.lsn, ep2, k2, ver2, d2, i2, t2⟩ : Rec).sector) k)) u := fun u => run_add _ _ (by rw [ByteArray.size_extract]; omega) (by rw [ByteArray.size_extract]; omega) u
  rw [if_neg h1] at N1
  have M1 := fun u => nextN N1 u
  rw [if_neg h2] at N2
  have M2 := fun u => nextN N2 u
  have e1 : ((mixB p.sector ((⟨p.lsn, ep2, k2, ver2, d2, i2, t2⟩ : Rec).sector) k).toList == p.sector.toList) = false := bytes_ne h1
  have e2 : ((mixB p.sector ((⟨p.lsn, ep2, k2, ver2, d2, i2, t2⟩ : Rec).sector) k).toList == ((⟨p.lsn, ep2, k2, ver2, d2, i2, t2⟩ : Rec).sector).toList) = false := bytes_ne h2
  clear N1 hm z2n N2 hne hn
  clear h1 h2
  generalize mixB p.sector ((⟨p.lsn, ep2, k2, ver2, d2, i2, t2⟩ : Rec).sector) k = m at *
  generalize p.sector = sec at *
  generalize (⟨p.lsn, ep2, k2, ver2, d2, i2, t2⟩ : Rec).sector = sec2 at *
  clear ha hb hpf hqf hp hq hk
  have FX := fun u => fixed_any u
  unfold Rec.value at *
  dsimp only at *
  have A0 := (Blk.new W 25 #[.int .u64 a.lsn, .int .u32 a.epoch, .int .i64 a.kind, .int .u64 a.ver, .int .u64 a.dl, .string a.id, .string a.val]).alloc (.cells #[.int .u64 b.lsn, .int .u32 b.epoch, .int .i64 b.kind, .int .u64 b.ver, .int .u64 b.dl, .string b.id, .string b.val] 25)
  have B0 := Blk.new (W.alloc (.cells #[.int .u64 a.lsn, .int .u32 a.epoch, .int .i64 a.kind, .int .u64 a.ver, .int .u64 a.dl, .string a.id, .string a.val] 25)) 25 #[.int .u64 b.lsn, .int .u32 b.epoch, .int .i64 b.kind, .int .u64 b.ver, .int .u64 b.dl, .string b.id, .string b.val]
  rw [show (W.alloc (.cells #[.int .u64 a.lsn, .int .u32 a.epoch, .int .i64 a.kind, .int .u64 a.ver, .int .u64 a.dl, .string a.id, .string a.val] 25)).heap.size = W.heap.size + 1 by simp] at B0
  have hW0 := ((Newer.refl W).alloc (.cells #[.int .u64 a.lsn, .int .u32 a.epoch, .int .i64 a.kind, .int .u64 a.ver, .int .u64 a.dl, .string a.id, .string a.val] 25)).alloc (.cells #[.int .u64 b.lsn, .int .u32 b.epoch, .int .i64 b.kind, .int .u64 b.ver, .int .u64 b.dl, .string b.id, .string b.val] 25)
  go_enter Try.func5, Try.ntmps5
  go_wp2_with (first
    | (go_at_call 9; (with_reducible refine (C1 _).mono ?_); rintro e v1 ⟨rfl, hB⟩; have A1 := A0.below hB A0.lt; have B1 := B0.below hB B0.lt; have hW1 := hW0.trans hB; clear A0 B0 hW0 hB C1; obtain ⟨cA0, cA1, cA2, cA3, cA4, cA5, cA6⟩ := cells7 A1; have lA := A1.lt; have fA := fun k => A1.frozen k; obtain ⟨cB0, cB1, cB2, cB3, cB4, cB5, cB6⟩ := cells7 B1; have lB := B1.lt; have fB := fun k => B1.frozen k)
    | (go_at_call 9; (with_reducible refine (C2 _).mono ?_); rintro e v2 ⟨rfl, hB⟩; obtain ⟨hS, hS2⟩ := set7N A1 hW1 (by simp) (.int .u64 p.lsn) (.int .u32 p.epoch) (.int .i64 p.kind) (.int .u64 p.ver) (.int .u64 p.dl) (.string p.id) (.string p.val); have A2 := hS.below hB hS.lt; have B2 := (far7 B1 (by simp) (.int .u64 p.lsn) (.int .u32 p.epoch) (.int .i64 p.kind) (.int .u64 p.ver) (.int .u64 p.dl) (.string p.id) (.string p.val)).below hB (far7 B1 (by simp) (.int .u64 p.lsn) (.int .u32 p.epoch) (.int .i64 p.kind) (.int .u64 p.ver) (.int .u64 p.dl) (.string p.id) (.string p.val)).lt; have hW2 := hS2.trans hB; clear hS hS2; clear A1 B1 hW1 hB C2; clear cA0 cA1 cA2 cA3 cA4 cA5 cA6 lA fA cB0 cB1 cB2 cB3 cB4 cB5 cB6 lB fB; obtain ⟨cA0, cA1, cA2, cA3, cA4, cA5, cA6⟩ := cells7 A2; have lA := A2.lt; have fA := fun k => A2.frozen k; obtain ⟨cB0, cB1, cB2, cB3, cB4, cB5, cB6⟩ := cells7 B2; have lB := B2.lt; have fB := fun k => B2.frozen k)
    | (go_at_call 10; (with_reducible refine (E1 _).mono ?_); rintro e v3 ⟨rfl, hB⟩; obtain ⟨hS, hS2⟩ := set7N B2 hW2 (by simp) (.int .u64 p.lsn) (.int .u32 ep2) (.int .i64 k2) (.int .u64 ver2) (.int .u64 d2) (.string i2) (.string t2); have A3 := (far7 A2 (by simp) (.int .u64 p.lsn) (.int .u32 ep2) (.int .i64 k2) (.int .u64 ver2) (.int .u64 d2) (.string i2) (.string t2)).below hB (far7 A2 (by simp) (.int .u64 p.lsn) (.int .u32 ep2) (.int .i64 k2) (.int .u64 ver2) (.int .u64 d2) (.string i2) (.string t2)).lt; have B3 := hS.below hB hS.lt; have hW3 := hS2.trans hB; clear hS hS2; clear A2 B2 hW2 hB E1; clear cA0 cA1 cA2 cA3 cA4 cA5 cA6 lA fA cB0 cB1 cB2 cB3 cB4 cB5 cB6 lB fB; obtain ⟨cA0, cA1, cA2, cA3, cA4, cA5, cA6⟩ := cells7 A3; have lA := A3.lt; have fA := fun k => A3.frozen k; obtain ⟨cB0, cB1, cB2, cB3, cB4, cB5, cB6⟩ := cells7 B3; have lB := B3.lt; have fB := fun k => B3.frozen k)
    | (go_at_call 10; (with_reducible refine (E2 _).mono ?_); rintro e v4 ⟨rfl, hB⟩; have A4 := A3.below hB A3.lt; have B4 := B3.below hB B3.lt; have hW4 := hW3.trans hB; clear A3 B3 hW3 hB E2; clear cA0 cA1 cA2 cA3 cA4 cA5 cA6 lA fA cB0 cB1 cB2 cB3 cB4 cB5 cB6 lB fB; obtain ⟨cA0, cA1, cA2, cA3, cA4, cA5, cA6⟩ := cells7 A4; have lA := A4.lt; have fA := fun k => A4.frozen k; obtain ⟨cB0, cB1, cB2, cB3, cB4, cB5, cB6⟩ := cells7 B4; have lB := B4.lt; have fB := fun k => B4.frozen k)
    )
  refine wp_region_ord Newer.grow [(0, true), (1, true), (2, true), (3, true), (4, true), (5, true), (6, true), (7, true)] [] (by kernel_rfl) (by kernel_rfl) rfl (by kernel_rfl) (by intro _ _ d _ _ h; cases d <;> exact h) ?_
  iterate 8
    (apply wpOrd_take
     · exact rfl
     · intro w1 h1
       (skip)
       go_simp
       first
         | with_reducible exact ⟨rfl, Newer.grow.refl _⟩
     simp only [Act.put, List.setIfInBounds_toArray, List.set_cons_zero, List.set_cons_succ])
  refine wpOrd_done fun w1 h1 => ?_
  have A5 := A4.below h1.undrew A4.lt
  have B5 := B4.below h1.undrew B4.lt
  have hW5 := hW4.trans h1.undrew
  clear cA0 cA1 cA2 cA3 cA4 cA5 cA6 lA cB0 cB1 cB2 cB3 cB4 cB5 cB6 lB A4 B4 hW4 h1
  obtain ⟨cA0, cA1, cA2, cA3, cA4, cA5, cA6⟩ := cells7 A5
  have lA := A5.lt
  go_wp2_with (first
    | (go_at_call 15; (with_reducible refine (M1 _).mono ?_); rintro e v6 ⟨rfl, hB⟩; have A6 := A5.below hB A5.lt; have B6 := B5.below hB B5.lt; have hW6 := hW5.trans hB; clear A5 B5 hW5 hB M1; obtain ⟨cA0, cA1, cA2, cA3, cA4, cA5, cA6⟩ := cells7 A6; have lA := A6.lt; have fA := fun k => A6.frozen k; obtain ⟨cB0, cB1, cB2, cB3, cB4, cB5, cB6⟩ := cells7 B6; have lB := B6.lt; have fB := fun k => B6.frozen k)
    | (go_at_call 15; (with_reducible refine (M2 _).mono ?_); rintro e v7 ⟨rfl, hB⟩; have A7 := A6.on _ hB; have B7 := B6.on _ hB; have hW7 := (hW6.alloc _).trans hB; have X7 := (Blk.new v6 25 #[.int .u64 0, .int .u32 0, .int .i64 0, .int .u64 0, .int .u64 0, .string ⟨#[]⟩, .string ⟨#[]⟩]).below hB (Blk.new v6 25 #[.int .u64 0, .int .u32 0, .int .i64 0, .int .u64 0, .int .u64 0, .string ⟨#[]⟩, .string ⟨#[]⟩]).lt; clear A6 B6 hW6 hB M2; clear cA0 cA1 cA2 cA3 cA4 cA5 cA6 lA fA cB0 cB1 cB2 cB3 cB4 cB5 cB6 lB fB)
    | (go_at_call 19; (with_reducible refine (FX _).mono ?_); rintro e v8 ⟨rfl, hB⟩; have A8 := A7.on _ hB; have B8 := B7.on _ hB; have X8 := X7.on _ hB; have hW8 := (hW7.alloc _).trans hB; have U8 := (Blk.new v7 25 #[.int .u64 0, .int .u32 0, .int .i64 0, .int .u64 0, .int .u64 0, .string ⟨#[]⟩, .string ⟨#[]⟩]).below hB (Blk.new v7 25 #[.int .u64 0, .int .u32 0, .int .i64 0, .int .u64 0, .int .u64 0, .string ⟨#[]⟩, .string ⟨#[]⟩]).lt; clear A7 B7 X7 hW7 hB FX)
    )
  go_ret
  exact ⟨rfl, hW8⟩
set_option maxRecDepth 100000 in
set_option maxHeartbeats 4000000 in
theorem torn_z1 (W : World) (a b p q : Rec) (x : Int) (ha : a.cut = p) (hb : b.cut = q) (hpf : p.Fits) (hqf : q.Fits) (hp : p.right = true) (hq : Rec.right q = false) (k : Nat) (hk : k ≤ 128) (hx : (wrap64 x).tmod 129 = (k : Int)) (h1 : mixB p.sector (zeroB 128) k = p.sector) :
    Calls Try.prog 5 #[a.value, b.value, .int .u8 x] W fun e w' => e = .returned (.bool true) ∧ Below W.heap.size W w' := by
  have C1 := fun u => Cut_any a u
  have C2 := fun u => Cut_any b u
  rw [ha] at C1
  rw [hb] at C2
  have E1 := fun u => encY p hpf hp u
  have z1 : (p.sector.size : Int) = 128 := by have := Rec.sector_size hp; omega
  have hx2 : (IntKind.i64.wrap x).tmod 129 = (k : Int) := by rw [IntWalk.i64_left]; exact hx
  have k0 : (0 : Int) ≤ (k : Int) := by omega
  have k1 : (k : Int) ≤ 128 := by omega
  have E2 := fun u => Encode_no q hqf hq u
  have Z1 := fun u => ZeroN u
  have z2n : (zeroB 128).size = 128 := zeroB_size 128
  have hm := mixB_list (s := p.sector) z2n k
  have N1 := torn_next hp hpf (tornTail_zero hp hpf) hk hm
  have z2 : ((zeroB 128).size : Int) = 128 := by omega
  have hadd : ∀ u, (Op.stringOp .add (p.sector.extract 0 k) ((zeroB 128).extract k (zeroB 128).size)).run Try.prog u = .ok (.string (mixB p.sector (zeroB 128) k)) u := fun u => run_add _ _ (by rw [ByteArray.size_extract]; omega) (by rw [ByteArray.size_extract]; omega) u
  rw [if_pos h1] at N1
  have M1 := fun u => nextY N1 u
  have M2 := fun u => nextG (mixB p.sector (zeroB 128) k) q.lsn q.epoch u
  generalize (nextR (mixB p.sector (zeroB 128) k) q.lsn q.epoch).isSome = nx at M2
  generalize nextD (mixB p.sector (zeroB 128) k) q.lsn q.epoch = nd at M2
  have e1 : ((mixB p.sector (zeroB 128) k).toList == p.sector.toList) = true := by rw [h1]; exact beq_self_eq_true _
  clear N1 hm z2n
  clear h1
  generalize mixB p.sector (zeroB 128) k = m at *
  generalize p.sector = sec at *
  generalize zeroB 128 = sec2 at *
  clear ha hb hpf hqf hp hq hk
  have FX := fun u => fixed_any u
  unfold Rec.value at *
  have A0 := (Blk.new W 25 #[.int .u64 a.lsn, .int .u32 a.epoch, .int .i64 a.kind, .int .u64 a.ver, .int .u64 a.dl, .string a.id, .string a.val]).alloc (.cells #[.int .u64 b.lsn, .int .u32 b.epoch, .int .i64 b.kind, .int .u64 b.ver, .int .u64 b.dl, .string b.id, .string b.val] 25)
  have B0 := Blk.new (W.alloc (.cells #[.int .u64 a.lsn, .int .u32 a.epoch, .int .i64 a.kind, .int .u64 a.ver, .int .u64 a.dl, .string a.id, .string a.val] 25)) 25 #[.int .u64 b.lsn, .int .u32 b.epoch, .int .i64 b.kind, .int .u64 b.ver, .int .u64 b.dl, .string b.id, .string b.val]
  rw [show (W.alloc (.cells #[.int .u64 a.lsn, .int .u32 a.epoch, .int .i64 a.kind, .int .u64 a.ver, .int .u64 a.dl, .string a.id, .string a.val] 25)).heap.size = W.heap.size + 1 by simp] at B0
  have hW0 := ((Newer.refl W).alloc (.cells #[.int .u64 a.lsn, .int .u32 a.epoch, .int .i64 a.kind, .int .u64 a.ver, .int .u64 a.dl, .string a.id, .string a.val] 25)).alloc (.cells #[.int .u64 b.lsn, .int .u32 b.epoch, .int .i64 b.kind, .int .u64 b.ver, .int .u64 b.dl, .string b.id, .string b.val] 25)
  go_enter Try.func5, Try.ntmps5
  go_wp2_with (first
    | (go_at_call 9; (with_reducible refine (C1 _).mono ?_); rintro e v1 ⟨rfl, hB⟩; have A1 := A0.below hB A0.lt; have B1 := B0.below hB B0.lt; have hW1 := hW0.trans hB; clear A0 B0 hW0 hB C1; obtain ⟨cA0, cA1, cA2, cA3, cA4, cA5, cA6⟩ := cells7 A1; have lA := A1.lt; have fA := fun k => A1.frozen k; obtain ⟨cB0, cB1, cB2, cB3, cB4, cB5, cB6⟩ := cells7 B1; have lB := B1.lt; have fB := fun k => B1.frozen k)
    | (go_at_call 9; (with_reducible refine (C2 _).mono ?_); rintro e v2 ⟨rfl, hB⟩; obtain ⟨hS, hS2⟩ := set7N A1 hW1 (by simp) (.int .u64 p.lsn) (.int .u32 p.epoch) (.int .i64 p.kind) (.int .u64 p.ver) (.int .u64 p.dl) (.string p.id) (.string p.val); have A2 := hS.below hB hS.lt; have B2 := (far7 B1 (by simp) (.int .u64 p.lsn) (.int .u32 p.epoch) (.int .i64 p.kind) (.int .u64 p.ver) (.int .u64 p.dl) (.string p.id) (.string p.val)).below hB (far7 B1 (by simp) (.int .u64 p.lsn) (.int .u32 p.epoch) (.int .i64 p.kind) (.int .u64 p.ver) (.int .u64 p.dl) (.string p.id) (.string p.val)).lt; have hW2 := hS2.trans hB; clear hS hS2; clear A1 B1 hW1 hB C2; clear cA0 cA1 cA2 cA3 cA4 cA5 cA6 lA fA cB0 cB1 cB2 cB3 cB4 cB5 cB6 lB fB; obtain ⟨cA0, cA1, cA2, cA3, cA4, cA5, cA6⟩ := cells7 A2; have lA := A2.lt; have fA := fun k => A2.frozen k; obtain ⟨cB0, cB1, cB2, cB3, cB4, cB5, cB6⟩ := cells7 B2; have lB := B2.lt; have fB := fun k => B2.frozen k)
    | (go_at_call 10; (with_reducible refine (E1 _).mono ?_); rintro e v3 ⟨rfl, hB⟩; obtain ⟨hS, hS2⟩ := set7N B2 hW2 (by simp) (.int .u64 q.lsn) (.int .u32 q.epoch) (.int .i64 q.kind) (.int .u64 q.ver) (.int .u64 q.dl) (.string q.id) (.string q.val); have A3 := (far7 A2 (by simp) (.int .u64 q.lsn) (.int .u32 q.epoch) (.int .i64 q.kind) (.int .u64 q.ver) (.int .u64 q.dl) (.string q.id) (.string q.val)).below hB (far7 A2 (by simp) (.int .u64 q.lsn) (.int .u32 q.epoch) (.int .i64 q.kind) (.int .u64 q.ver) (.int .u64 q.dl) (.string q.id) (.string q.val)).lt; have B3 := hS.below hB hS.lt; have hW3 := hS2.trans hB; clear hS hS2; clear A2 B2 hW2 hB E1; clear cA0 cA1 cA2 cA3 cA4 cA5 cA6 lA fA cB0 cB1 cB2 cB3 cB4 cB5 cB6 lB fB; obtain ⟨cA0, cA1, cA2, cA3, cA4, cA5, cA6⟩ := cells7 A3; have lA := A3.lt; have fA := fun k => A3.frozen k; obtain ⟨cB0, cB1, cB2, cB3, cB4, cB5, cB6⟩ := cells7 B3; have lB := B3.lt; have fB := fun k => B3.frozen k)
    | (go_at_call 10; (with_reducible refine (E2 _).mono ?_); rintro e v4 ⟨rfl, hB⟩; have A4 := A3.below hB A3.lt; have B4 := B3.below hB B3.lt; have hW4 := hW3.trans hB; clear A3 B3 hW3 hB E2; clear cA0 cA1 cA2 cA3 cA4 cA5 cA6 lA fA cB0 cB1 cB2 cB3 cB4 cB5 cB6 lB fB)
    | (go_at_call 20; (with_reducible refine (Z1 _).mono ?_); rintro e v5 ⟨rfl, hB⟩; have A5 := A4.below hB A4.lt; have B5 := B4.below hB B4.lt; have hW5 := hW4.trans hB; clear A4 B4 hW4 hB Z1; obtain ⟨cA0, cA1, cA2, cA3, cA4, cA5, cA6⟩ := cells7 A5; have lA := A5.lt; have fA := fun k => A5.frozen k; obtain ⟨cB0, cB1, cB2, cB3, cB4, cB5, cB6⟩ := cells7 B5; have lB := B5.lt; have fB := fun k => B5.frozen k)
    )
  refine wp_region_ord Newer.grow [(0, true), (1, true), (2, true), (3, true), (4, true), (5, true), (6, true), (7, true)] [] (by kernel_rfl) (by kernel_rfl) rfl (by kernel_rfl) (by intro _ _ d _ _ h; cases d <;> exact h) ?_
  iterate 8
    (apply wpOrd_take
     · exact rfl
     · intro w1 h1
       (skip)
       go_simp
       first
         | with_reducible exact ⟨rfl, Newer.grow.refl _⟩
     simp only [Act.put, List.setIfInBounds_toArray, List.set_cons_zero, List.set_cons_succ])
  refine wpOrd_done fun w1 h1 => ?_
  have A6 := A5.below h1.undrew A5.lt
  have B6 := B5.below h1.undrew B5.lt
  have hW6 := hW5.trans h1.undrew
  clear cA0 cA1 cA2 cA3 cA4 cA5 cA6 lA cB0 cB1 cB2 cB3 cB4 cB5 cB6 lB A5 B5 hW5 h1
  obtain ⟨cA0, cA1, cA2, cA3, cA4, cA5, cA6⟩ := cells7 A6
  have lA := A6.lt
  go_wp2_with (first
    | (go_at_call 15; (with_reducible refine (M1 _).mono ?_); rintro e v7 ⟨rfl, hB⟩; have A7 := A6.below hB A6.lt; have B7 := B6.below hB B6.lt; have hW7 := hW6.trans hB; clear A6 B6 hW6 hB M1; obtain ⟨cA0, cA1, cA2, cA3, cA4, cA5, cA6⟩ := cells7 A7; have lA := A7.lt; have fA := fun k => A7.frozen k; obtain ⟨cB0, cB1, cB2, cB3, cB4, cB5, cB6⟩ := cells7 B7; have lB := B7.lt; have fB := fun k => B7.frozen k)
    | (go_at_call 15; (with_reducible refine (M2 _).mono ?_); rintro e v8 ⟨rfl, hB⟩; have A8 := A7.on _ hB; have B8 := B7.on _ hB; have hW8 := (hW7.alloc _).trans hB; have X8 := (Blk.new v7 25 #[.int .u64 p.lsn, .int .u32 p.epoch, .int .i64 p.kind, .int .u64 p.ver, .int .u64 p.dl, .string p.id, .string p.val]).below hB (Blk.new v7 25 #[.int .u64 p.lsn, .int .u32 p.epoch, .int .i64 p.kind, .int .u64 p.ver, .int .u64 p.dl, .string p.id, .string p.val]).lt; clear A7 B7 hW7 hB M2; clear cA0 cA1 cA2 cA3 cA4 cA5 cA6 lA fA cB0 cB1 cB2 cB3 cB4 cB5 cB6 lB fB)
    | (go_at_call 19; (with_reducible refine (FX _).mono ?_); rintro e v9 ⟨rfl, hB⟩; have A9 := A8.on _ hB; have B9 := B8.on _ hB; have X9 := X8.on _ hB; have hW9 := (hW8.alloc _).trans hB; have U9 := (Blk.new v8 25 #[.int .u64 nd.lsn, .int .u32 nd.epoch, .int .i64 nd.kind, .int .u64 nd.ver, .int .u64 nd.dl, .string nd.id, .string nd.val]).below hB (Blk.new v8 25 #[.int .u64 nd.lsn, .int .u32 nd.epoch, .int .i64 nd.kind, .int .u64 nd.ver, .int .u64 nd.dl, .string nd.id, .string nd.val]).lt; clear A8 B8 X8 hW8 hB FX)
    )
  go_ret
  exact ⟨rfl, hW9⟩
set_option maxRecDepth 100000 in
set_option maxHeartbeats 4000000 in
theorem torn_z0 (W : World) (a b p q : Rec) (x : Int) (ha : a.cut = p) (hb : b.cut = q) (hpf : p.Fits) (hqf : q.Fits) (hp : p.right = true) (hq : Rec.right q = false) (k : Nat) (hk : k ≤ 128) (hx : (wrap64 x).tmod 129 = (k : Int)) (h1 : ¬ mixB p.sector (zeroB 128) k = p.sector) :
    Calls Try.prog 5 #[a.value, b.value, .int .u8 x] W fun e w' => e = .returned (.bool true) ∧ Below W.heap.size W w' := by
  have C1 := fun u => Cut_any a u
  have C2 := fun u => Cut_any b u
  rw [ha] at C1
  rw [hb] at C2
  have E1 := fun u => encY p hpf hp u
  have z1 : (p.sector.size : Int) = 128 := by have := Rec.sector_size hp; omega
  have hx2 : (IntKind.i64.wrap x).tmod 129 = (k : Int) := by rw [IntWalk.i64_left]; exact hx
  have k0 : (0 : Int) ≤ (k : Int) := by omega
  have k1 : (k : Int) ≤ 128 := by omega
  have E2 := fun u => Encode_no q hqf hq u
  have Z1 := fun u => ZeroN u
  have z2n : (zeroB 128).size = 128 := zeroB_size 128
  have hm := mixB_list (s := p.sector) z2n k
  have N1 := torn_next hp hpf (tornTail_zero hp hpf) hk hm
  have z2 : ((zeroB 128).size : Int) = 128 := by omega
  have hadd : ∀ u, (Op.stringOp .add (p.sector.extract 0 k) ((zeroB 128).extract k (zeroB 128).size)).run Try.prog u = .ok (.string (mixB p.sector (zeroB 128) k)) u := fun u => run_add _ _ (by rw [ByteArray.size_extract]; omega) (by rw [ByteArray.size_extract]; omega) u
  rw [if_neg h1] at N1
  have M1 := fun u => nextN N1 u
  have M2 := fun u => nextG (mixB p.sector (zeroB 128) k) q.lsn q.epoch u
  generalize (nextR (mixB p.sector (zeroB 128) k) q.lsn q.epoch).isSome = nx at M2
  generalize nextD (mixB p.sector (zeroB 128) k) q.lsn q.epoch = nd at M2
  have e1 : ((mixB p.sector (zeroB 128) k).toList == p.sector.toList) = false := bytes_ne h1
  clear N1 hm z2n
  clear h1
  generalize mixB p.sector (zeroB 128) k = m at *
  generalize p.sector = sec at *
  generalize zeroB 128 = sec2 at *
  clear ha hb hpf hqf hp hq hk
  have FX := fun u => fixed_any u
  unfold Rec.value at *
  have A0 := (Blk.new W 25 #[.int .u64 a.lsn, .int .u32 a.epoch, .int .i64 a.kind, .int .u64 a.ver, .int .u64 a.dl, .string a.id, .string a.val]).alloc (.cells #[.int .u64 b.lsn, .int .u32 b.epoch, .int .i64 b.kind, .int .u64 b.ver, .int .u64 b.dl, .string b.id, .string b.val] 25)
  have B0 := Blk.new (W.alloc (.cells #[.int .u64 a.lsn, .int .u32 a.epoch, .int .i64 a.kind, .int .u64 a.ver, .int .u64 a.dl, .string a.id, .string a.val] 25)) 25 #[.int .u64 b.lsn, .int .u32 b.epoch, .int .i64 b.kind, .int .u64 b.ver, .int .u64 b.dl, .string b.id, .string b.val]
  rw [show (W.alloc (.cells #[.int .u64 a.lsn, .int .u32 a.epoch, .int .i64 a.kind, .int .u64 a.ver, .int .u64 a.dl, .string a.id, .string a.val] 25)).heap.size = W.heap.size + 1 by simp] at B0
  have hW0 := ((Newer.refl W).alloc (.cells #[.int .u64 a.lsn, .int .u32 a.epoch, .int .i64 a.kind, .int .u64 a.ver, .int .u64 a.dl, .string a.id, .string a.val] 25)).alloc (.cells #[.int .u64 b.lsn, .int .u32 b.epoch, .int .i64 b.kind, .int .u64 b.ver, .int .u64 b.dl, .string b.id, .string b.val] 25)
  go_enter Try.func5, Try.ntmps5
  go_wp2_with (first
    | (go_at_call 9; (with_reducible refine (C1 _).mono ?_); rintro e v1 ⟨rfl, hB⟩; have A1 := A0.below hB A0.lt; have B1 := B0.below hB B0.lt; have hW1 := hW0.trans hB; clear A0 B0 hW0 hB C1; obtain ⟨cA0, cA1, cA2, cA3, cA4, cA5, cA6⟩ := cells7 A1; have lA := A1.lt; have fA := fun k => A1.frozen k; obtain ⟨cB0, cB1, cB2, cB3, cB4, cB5, cB6⟩ := cells7 B1; have lB := B1.lt; have fB := fun k => B1.frozen k)
    | (go_at_call 9; (with_reducible refine (C2 _).mono ?_); rintro e v2 ⟨rfl, hB⟩; obtain ⟨hS, hS2⟩ := set7N A1 hW1 (by simp) (.int .u64 p.lsn) (.int .u32 p.epoch) (.int .i64 p.kind) (.int .u64 p.ver) (.int .u64 p.dl) (.string p.id) (.string p.val); have A2 := hS.below hB hS.lt; have B2 := (far7 B1 (by simp) (.int .u64 p.lsn) (.int .u32 p.epoch) (.int .i64 p.kind) (.int .u64 p.ver) (.int .u64 p.dl) (.string p.id) (.string p.val)).below hB (far7 B1 (by simp) (.int .u64 p.lsn) (.int .u32 p.epoch) (.int .i64 p.kind) (.int .u64 p.ver) (.int .u64 p.dl) (.string p.id) (.string p.val)).lt; have hW2 := hS2.trans hB; clear hS hS2; clear A1 B1 hW1 hB C2; clear cA0 cA1 cA2 cA3 cA4 cA5 cA6 lA fA cB0 cB1 cB2 cB3 cB4 cB5 cB6 lB fB; obtain ⟨cA0, cA1, cA2, cA3, cA4, cA5, cA6⟩ := cells7 A2; have lA := A2.lt; have fA := fun k => A2.frozen k; obtain ⟨cB0, cB1, cB2, cB3, cB4, cB5, cB6⟩ := cells7 B2; have lB := B2.lt; have fB := fun k => B2.frozen k)
    | (go_at_call 10; (with_reducible refine (E1 _).mono ?_); rintro e v3 ⟨rfl, hB⟩; obtain ⟨hS, hS2⟩ := set7N B2 hW2 (by simp) (.int .u64 q.lsn) (.int .u32 q.epoch) (.int .i64 q.kind) (.int .u64 q.ver) (.int .u64 q.dl) (.string q.id) (.string q.val); have A3 := (far7 A2 (by simp) (.int .u64 q.lsn) (.int .u32 q.epoch) (.int .i64 q.kind) (.int .u64 q.ver) (.int .u64 q.dl) (.string q.id) (.string q.val)).below hB (far7 A2 (by simp) (.int .u64 q.lsn) (.int .u32 q.epoch) (.int .i64 q.kind) (.int .u64 q.ver) (.int .u64 q.dl) (.string q.id) (.string q.val)).lt; have B3 := hS.below hB hS.lt; have hW3 := hS2.trans hB; clear hS hS2; clear A2 B2 hW2 hB E1; clear cA0 cA1 cA2 cA3 cA4 cA5 cA6 lA fA cB0 cB1 cB2 cB3 cB4 cB5 cB6 lB fB; obtain ⟨cA0, cA1, cA2, cA3, cA4, cA5, cA6⟩ := cells7 A3; have lA := A3.lt; have fA := fun k => A3.frozen k; obtain ⟨cB0, cB1, cB2, cB3, cB4, cB5, cB6⟩ := cells7 B3; have lB := B3.lt; have fB := fun k => B3.frozen k)
    | (go_at_call 10; (with_reducible refine (E2 _).mono ?_); rintro e v4 ⟨rfl, hB⟩; have A4 := A3.below hB A3.lt; have B4 := B3.below hB B3.lt; have hW4 := hW3.trans hB; clear A3 B3 hW3 hB E2; clear cA0 cA1 cA2 cA3 cA4 cA5 cA6 lA fA cB0 cB1 cB2 cB3 cB4 cB5 cB6 lB fB)
    | (go_at_call 20; (with_reducible refine (Z1 _).mono ?_); rintro e v5 ⟨rfl, hB⟩; have A5 := A4.below hB A4.lt; have B5 := B4.below hB B4.lt; have hW5 := hW4.trans hB; clear A4 B4 hW4 hB Z1; obtain ⟨cA0, cA1, cA2, cA3, cA4, cA5, cA6⟩ := cells7 A5; have lA := A5.lt; have fA := fun k => A5.frozen k; obtain ⟨cB0, cB1, cB2, cB3, cB4, cB5, cB6⟩ := cells7 B5; have lB := B5.lt; have fB := fun k => B5.frozen k)
    )
  refine wp_region_ord Newer.grow [(0, true), (1, true), (2, true), (3, true), (4, true), (5, true), (6, true), (7, true)] [] (by kernel_rfl) (by kernel_rfl) rfl (by kernel_rfl) (by intro _ _ d _ _ h; cases d <;> exact h) ?_
  iterate 8
    (apply wpOrd_take
     · exact rfl
     · intro w1 h1
       (skip)
       go_simp
       first
         | with_reducible exact ⟨rfl, Newer.grow.refl _⟩
     simp only [Act.put, List.setIfInBounds_toArray, List.set_cons_zero, List.set_cons_succ])
  refine wpOrd_done fun w1 h1 => ?_
  have A6 := A5.below h1.undrew A5.lt
  have B6 := B5.below h1.undrew B5.lt
  have hW6 := hW5.trans h1.undrew
  clear cA0 cA1 cA2 cA3 cA4 cA5 cA6 lA cB0 cB1 cB2 cB3 cB4 cB5 cB6 lB A5 B5 hW5 h1
  obtain ⟨cA0, cA1, cA2, cA3, cA4, cA5, cA6⟩ := cells7 A6
  have lA := A6.lt
  go_wp2_with (first
    | (go_at_call 15; (with_reducible refine (M1 _).mono ?_); rintro e v7 ⟨rfl, hB⟩; have A7 := A6.below hB A6.lt; have B7 := B6.below hB B6.lt; have hW7 := hW6.trans hB; clear A6 B6 hW6 hB M1; obtain ⟨cA0, cA1, cA2, cA3, cA4, cA5, cA6⟩ := cells7 A7; have lA := A7.lt; have fA := fun k => A7.frozen k; obtain ⟨cB0, cB1, cB2, cB3, cB4, cB5, cB6⟩ := cells7 B7; have lB := B7.lt; have fB := fun k => B7.frozen k)
    | (go_at_call 15; (with_reducible refine (M2 _).mono ?_); rintro e v8 ⟨rfl, hB⟩; have A8 := A7.on _ hB; have B8 := B7.on _ hB; have hW8 := (hW7.alloc _).trans hB; have X8 := (Blk.new v7 25 #[.int .u64 0, .int .u32 0, .int .i64 0, .int .u64 0, .int .u64 0, .string ⟨#[]⟩, .string ⟨#[]⟩]).below hB (Blk.new v7 25 #[.int .u64 0, .int .u32 0, .int .i64 0, .int .u64 0, .int .u64 0, .string ⟨#[]⟩, .string ⟨#[]⟩]).lt; clear A7 B7 hW7 hB M2; clear cA0 cA1 cA2 cA3 cA4 cA5 cA6 lA fA cB0 cB1 cB2 cB3 cB4 cB5 cB6 lB fB)
    | (go_at_call 19; (with_reducible refine (FX _).mono ?_); rintro e v9 ⟨rfl, hB⟩; have A9 := A8.on _ hB; have B9 := B8.on _ hB; have X9 := X8.on _ hB; have hW9 := (hW8.alloc _).trans hB; have U9 := (Blk.new v8 25 #[.int .u64 nd.lsn, .int .u32 nd.epoch, .int .i64 nd.kind, .int .u64 nd.ver, .int .u64 nd.dl, .string nd.id, .string nd.val]).below hB (Blk.new v8 25 #[.int .u64 nd.lsn, .int .u32 nd.epoch, .int .i64 nd.kind, .int .u64 nd.ver, .int .u64 nd.dl, .string nd.id, .string nd.val]).lt; clear A8 B8 X8 hW8 hB FX)
    )
  go_ret
  exact ⟨rfl, hW9⟩
theorem walkRecordTorn (W : World) (a : Rec) (ha : a.Fits) (b : Rec) (hb : b.Fits) (x : Int) (hx : (Lit.int .u8 x).wf = true) :
    Calls Try.prog 5 #[a.value, b.value, .int .u8 x] W fun e w' => e = .returned (.bool true) ∧ Below W.heap.size W w' := by
  have haf := Rec.cut_fits ha
  have hbf := Rec.cut_fits hb
  obtain ⟨k, hk, hk2⟩ := at129 hx
  cases hp : a.cut.right with
  | false =>
    cases hq : b.cut.right with
    | false => exact torn_nn W a b _ _ x rfl rfl haf hbf hp hq
    | true => exact torn_ny W a b _ _ x rfl rfl haf hbf hp hq
  | true =>
    cases hq : b.cut.right with
    | false =>
      by_cases h1 : mixB a.cut.sector (zeroB 128) k = a.cut.sector
      · exact torn_z1 W a b _ _ x rfl rfl haf hbf hp hq k hk hk2 h1
      · exact torn_z0 W a b _ _ x rfl rfl haf hbf hp hq k hk hk2 h1
    | true =>
      have hno : ¬ (a.cut.lsn = b.cut.lsn ∧ a.cut.epoch = b.cut.epoch) → mixB a.cut.sector b.cut.sector k = a.cut.sector → ¬ mixB a.cut.sector b.cut.sector k = b.cut.sector := fun hne h1 h2 => by
        have := sector_inj hp haf hq hbf (h1.symm.trans h2)
        exact hne ⟨by rw [this], by rw [this]⟩
      by_cases hl : a.cut.lsn = b.cut.lsn
      · obtain ⟨q, hbq⟩ : ∃ q, b.cut = q := ⟨_, rfl⟩
        rw [hbq] at hq hbf hl hno
        obtain ⟨l2, ep2, k2, ver2, d2, i2, t2⟩ := q
        obtain rfl : l2 = a.cut.lsn := hl.symm
        by_cases he : a.cut.epoch = ep2
        · subst he
          exact torn_same W a b _ _ _ _ _ _ x rfl hbq haf hbf hp hq
        · by_cases h1 : mixB a.cut.sector (Rec.sector ⟨a.cut.lsn, ep2, k2, ver2, d2, i2, t2⟩) k = a.cut.sector
          · exact torn_e10 W a b _ _ _ _ _ _ _ x rfl hbq haf hbf hp hq k hk hk2 he h1 (hno (fun h => he h.2) h1)
          · by_cases h2 : mixB a.cut.sector (Rec.sector ⟨a.cut.lsn, ep2, k2, ver2, d2, i2, t2⟩) k = Rec.sector ⟨a.cut.lsn, ep2, k2, ver2, d2, i2, t2⟩
            · exact torn_e01 W a b _ _ _ _ _ _ _ x rfl hbq haf hbf hp hq k hk hk2 he h1 h2
            · exact torn_e00 W a b _ _ _ _ _ _ _ x rfl hbq haf hbf hp hq k hk hk2 he h1 h2
      · by_cases h1 : mixB a.cut.sector b.cut.sector k = a.cut.sector
        · exact torn_m10 W a b _ _ x rfl rfl haf hbf hp hq k hk hk2 hl h1 (hno (fun h => hl h.1) h1)
        · by_cases h2 : mixB a.cut.sector b.cut.sector k = b.cut.sector
          · exact torn_m01 W a b _ _ x rfl rfl haf hbf hp hq k hk hk2 hl h1 h2
          · exact torn_m00 W a b _ _ x rfl rfl haf hbf hp hq k hk hk2 hl h1 h2
end Go.Proofs.Ytoofmklghllliaa
