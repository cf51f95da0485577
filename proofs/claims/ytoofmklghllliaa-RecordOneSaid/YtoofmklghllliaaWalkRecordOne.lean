/- The walk of the law RecordOne. -/
import Derived.Test.YtoofmklghllliaaWalkRecordBack
import Derived.Test.YtoofmklghllliaaTornPure
import Derived.Test.YtoofmklghllliaaBytes
namespace Go.Proofs.Ytoofmklghllliaa
set_option linter.unusedSimpArgs false
set_option linter.unusedVariables false
open Go.RowKit
attribute [local go_sem high] run_mx run_mn

theorem at128 {x : Int} (h : (Lit.int .u8 x).wf = true) : ∃ k : Nat, k < 128 ∧ (wrap64 x).tmod 128 = (k : Int) := by
  have h := bounds_u8 h
  have hw : wrap64 x = x := by unfold wrap64; omega
  refine ⟨(x % 128).toNat, by omega, ?_⟩
  rw [hw, Int.tmod_eq_emod_of_nonneg h.1]; omega
theorem xor_ne {c : UInt8} {x : Nat} (h0 : x ≠ 0) : c.toNat ^^^ x ≠ c.toNat := fun h => by
  have h2 := congrArg (c.toNat ^^^ ·) h
  simp only [← Nat.xor_assoc, Nat.xor_self, Nat.zero_xor] at h2
  exact h0 h2
theorem newer_grown {w v : World} (h : w.grownBy v none) : Newer w v := ⟨h.os, h.tape, h.output, h.size, fun b hb => h.block b hb (fun e => by cases e)⟩
theorem ByteBlk.set_ {w : World} {g : Nat} {l : List UInt8} (h : ByteBlk w g l) {i : Nat} (hi : i < l.length) (c : UInt8) : ByteBlk (w.setCell ⟨g, i, none⟩ (.int .u8 (c.toNat : Int))) g (l.set i c) := by
  have hc := h.cell i hi
  refine ⟨fun j hj => ?_, fun j hj => ?_⟩
  · rw [List.length_set] at hj
    by_cases he : i = j
    · subst he
      rw [World.cell?_setCell_same w _ _ hc, List.getElem_set_self]
    · rw [World.cell?_setCell_other w ⟨g, i, none⟩ ⟨g, j, none⟩ _ (fun e => he (by injection e)), List.getElem_set_ne he]
      exact h.cell j hj
  · rw [List.length_set] at hj
    rw [World.frozen?_setCell]
    exact h.free j hj
set_option maxRecDepth 100000 in
set_option maxHeartbeats 4000000 in
theorem one_n (W : World) (r q : Rec) (hc : r.cut = q) (hcf : q.Fits) (hq : q.right = false) (y x : Int) :
    Calls Try.prog 6 #[r.value, .int .u8 y, .int .u8 x] W fun e w' => e = .returned (.bool true) ∧ Below W.heap.size W w' := by
  have C1 := fun u => Cut_any r u
  rw [hc] at C1
  have E1 := fun u => Encode_no q hcf hq u
  clear hc hcf hq
  have FX := fun u => fixed_any u
  unfold Rec.value at *
  have A0 := Blk.new W 25 #[.int .u64 r.lsn, .int .u32 r.epoch, .int .i64 r.kind, .int .u64 r.ver, .int .u64 r.dl, .string r.id, .string r.val]
  have hW0 := (Newer.refl W).alloc (.cells #[.int .u64 r.lsn, .int .u32 r.epoch, .int .i64 r.kind, .int .u64 r.ver, .int .u64 r.dl, .string r.id, .string r.val] 25)
  go_enter Try.func6, Try.ntmps6
  go_wp2_with (first
    | (go_at_call 9; (with_reducible refine (C1 _).mono ?_); rintro e v1 ⟨rfl, hB⟩; have A1 := A0.below hB A0.lt; have hW1 := hW0.trans hB; clear A0 hW0 hB C1; obtain ⟨cA0, cA1, cA2, cA3, cA4, cA5, cA6⟩ := cells7 A1; have lA := A1.lt; have fA := fun k => A1.frozen k)
    | (go_at_call 10; (with_reducible refine (E1 _).mono ?_); rintro e v2 ⟨rfl, hB⟩; obtain ⟨hS, hS2⟩ := set7N A1 hW1 (by simp) (.int .u64 q.lsn) (.int .u32 q.epoch) (.int .i64 q.kind) (.int .u64 q.ver) (.int .u64 q.dl) (.string q.id) (.string q.val); have A2 := hS.below hB hS.lt; have hW2 := hS2.trans hB; clear hS hS2; clear A1 hW1 hB E1; clear cA0 cA1 cA2 cA3 cA4 cA5 cA6 lA fA)
    | (go_at_call 19; (with_reducible refine (FX _).mono ?_); rintro e v3 ⟨rfl, hB⟩; have A3 := A2.below hB A2.lt; have hW3 := hW2.trans hB; clear A2 hW2 hB FX)
    )
  go_ret
  exact ⟨rfl, hW3⟩
set_option maxRecDepth 100000 in
set_option maxHeartbeats 4000000 in
theorem one_0 (W : World) (r q : Rec) (hc : r.cut = q) (hcf : q.Fits) (hq : q.right = true) (y x : Int) (hx : x = 0) :
    Calls Try.prog 6 #[r.value, .int .u8 y, .int .u8 x] W fun e w' => e = .returned (.bool true) ∧ Below W.heap.size W w' := by
  have C1 := fun u => Cut_any r u
  rw [hc] at C1
  have E1 := fun u => encY q hcf hq u
  have z1 : (q.sector.size : Int) = 128 := by have := Rec.sector_size hq; omega
  clear hc hcf hq
  subst hx
  generalize q.sector = sec at *
  have FX := fun u => fixed_any u
  unfold Rec.value at *
  have A0 := Blk.new W 25 #[.int .u64 r.lsn, .int .u32 r.epoch, .int .i64 r.kind, .int .u64 r.ver, .int .u64 r.dl, .string r.id, .string r.val]
  have hW0 := (Newer.refl W).alloc (.cells #[.int .u64 r.lsn, .int .u32 r.epoch, .int .i64 r.kind, .int .u64 r.ver, .int .u64 r.dl, .string r.id, .string r.val] 25)
  go_enter Try.func6, Try.ntmps6
  go_wp2_with (first
    | (go_at_call 9; (with_reducible refine (C1 _).mono ?_); rintro e v1 ⟨rfl, hB⟩; have A1 := A0.below hB A0.lt; have hW1 := hW0.trans hB; clear A0 hW0 hB C1; obtain ⟨cA0, cA1, cA2, cA3, cA4, cA5, cA6⟩ := cells7 A1; have lA := A1.lt; have fA := fun k => A1.frozen k)
    | (go_at_call 10; (with_reducible refine (E1 _).mono ?_); rintro e v2 ⟨rfl, hB⟩; obtain ⟨hS, hS2⟩ := set7N A1 hW1 (by simp) (.int .u64 q.lsn) (.int .u32 q.epoch) (.int .i64 q.kind) (.int .u64 q.ver) (.int .u64 q.dl) (.string q.id) (.string q.val); have A2 := hS.below hB hS.lt; have hW2 := hS2.trans hB; clear hS hS2; clear A1 hW1 hB E1; clear cA0 cA1 cA2 cA3 cA4 cA5 cA6 lA fA)
    | (go_at_call 19; (with_reducible refine (FX _).mono ?_); rintro e v3 ⟨rfl, hB⟩; have A3 := A2.below hB A2.lt; have hW3 := hW2.trans hB; clear A2 hW2 hB FX)
    )
  go_ret
  exact ⟨rfl, hW3⟩
set_option maxRecDepth 100000 in
set_option maxHeartbeats 4000000 in
theorem one_y (W : World) (r q : Rec) (hc : r.cut = q) (hcf : q.Fits) (hq : q.right = true) (y : Int) (x : Nat) (hx : x ≠ 0) (hx8 : x < 256) (i : Nat) (hi : i < 128) (hy : (wrap64 y).tmod 128 = (i : Int)) :
    Calls Try.prog 6 #[r.value, .int .u8 y, .int .u8 x] W fun e w' => e = .returned (.bool true) ∧ Below W.heap.size W w' := by
  have C1 := fun u => Cut_any r u
  rw [hc] at C1
  have E1 := fun u => encY q hcf hq u
  have z0 := Rec.sector_size hq
  have z1 : (q.sector.size : Int) = 128 := by omega
  have hl : i < q.sector.data.toList.length := by rw [size_len, z0]; exact hi
  have hl2 : q.sector.data.toList.length = 128 := by rw [size_len, z0]
  have i0 : (0 : Int) ≤ (i : Int) := by omega
  have i1 : (i : Int) < 128 := by omega
  have hxb : ((x : Int) == 0) = false := by simp; exact hx
  have hxn : ¬ ((x : Int) = 0) := by omega
  obtain ⟨c, hcv⟩ : ∃ c : UInt8, c.toNat = (q.sector.data.toList[i]).toNat ^^^ x := ⟨UInt8.ofNat ((q.sector.data.toList[i]).toNat ^^^ x), by
    rw [UInt8.toNat_ofNat', Nat.mod_eq_of_lt (xor_lt8 (q.sector.data.toList[i]).toNat_lt hx8)]⟩
  have hne : q.sector.data.toList[i]? ≠ some c := by
    rw [List.getElem?_eq_getElem hl]
    intro h
    injection h with h
    rw [h] at hcv
    exact xor_ne hx hcv.symm
  have hdec := one_byte hq hcf hi hne (m := ⟨(q.sector.data.toList.set i c).toArray⟩) (by simp)
  have D1 := fun u => decN hdec u
  have hb : bits BinOp.xor IntKind.u8 (((q.sector.data.toList[i]).toNat : Nat) : Int) (x : Int) = ((c.toNat : Nat) : Int) := by
    rw [hcv]; exact u8_xor_nat _ _ (q.sector.data.toList[i]).toNat_lt hx8
  clear hdec hne hcv hc hcf hq hx
  generalize q.sector = sec at *
  obtain ⟨n0, hn0⟩ : ∃ n0, (sec.data.toList[i]).toNat = n0 := ⟨_, rfl⟩
  obtain ⟨nc, hnc⟩ : ∃ nc, c.toNat = nc := ⟨_, rfl⟩
  rw [hn0, hnc] at hb
  have hcell : ∀ (w : World) (g : Nat), ByteBlk w g sec.data.toList → w.cell? ⟨g, i, none⟩ = some (.int .u8 (n0 : Int)) ∧ w.frozen? ⟨g, i, none⟩ = false ∧ ByteBlk (w.setCell ⟨g, i, none⟩ (.int .u8 (nc : Int))) g (sec.data.toList.set i c) := fun w g h =>
    ⟨by rw [← hn0]; exact h.cell i hl, h.free i hl, by rw [← hnc]; exact h.set_ hl c⟩
  have HC := Lib.hid hcell
  have hlen : 128 = (sec.data.toList.set i c).length := by rw [List.length_set, hl2]
  have HLEN := Lib.hid hlen
  clear hcell hn0 hnc hl hl2 hlen
  have FX := fun u => fixed_any u
  unfold Rec.value at *
  have A0 := Blk.new W 25 #[.int .u64 r.lsn, .int .u32 r.epoch, .int .i64 r.kind, .int .u64 r.ver, .int .u64 r.dl, .string r.id, .string r.val]
  have hW0 := (Newer.refl W).alloc (.cells #[.int .u64 r.lsn, .int .u32 r.epoch, .int .i64 r.kind, .int .u64 r.ver, .int .u64 r.dl, .string r.id, .string r.val] 25)
  go_enter Try.func6, Try.ntmps6
  go_wp2_with (first
    | (go_at_call 9; (with_reducible refine (C1 _).mono ?_); rintro e v1 ⟨rfl, hB⟩; have A1 := A0.below hB A0.lt; have hW1 := hW0.trans hB; clear A0 hW0 hB C1; obtain ⟨cA0, cA1, cA2, cA3, cA4, cA5, cA6⟩ := cells7 A1; have lA := A1.lt; have fA := fun k => A1.frozen k)
    | (go_at_call 10; (with_reducible refine (E1 _).mono ?_); rintro e v2 ⟨rfl, hB⟩; obtain ⟨hS, hS2⟩ := set7N A1 hW1 (by simp) (.int .u64 q.lsn) (.int .u32 q.epoch) (.int .i64 q.kind) (.int .u64 q.ver) (.int .u64 q.dl) (.string q.id) (.string q.val); have A2 := hS.below hB hS.lt; have hW2 := hS2.trans hB; clear hS hS2; clear A1 hW1 hB E1; clear cA0 cA1 cA2 cA3 cA4 cA5 cA6 lA fA)
    | (have _g := hW2; refine wpList_toBytes (o := ⟨some 42, _, _, _, _, _⟩) _ rfl rfl Try.underlying9 Try.underlying50 Try.underlying5 rfl ?_; intro cap v3 hB3 hg3 hz3; obtain ⟨hbi, hbf, hB4⟩ := HC.out _ _ hB3; have hcv := run_toString (P := Try.prog) (src := 50) (dst := 9) (cap := cap) _ Try.underlying50 Try.underlying5 Try.underlying9 hB4 HLEN.out; have hW3 := hW2.trans (newer_grown hg3); have hW4 : Newer W (v3.setCell ⟨v2.heap.size, i, none⟩ (.int .u8 (nc : Int))) := Below.setCell hW3 hW2.size _; clear hW2 hg3 hB3 hW3 A2)
    | (go_at_call 13; (with_reducible refine (D1 _).mono ?_); rintro e v5 ⟨rfl, hB⟩; have hW5 := hW4.trans hB; clear D1 hW4 hB hB4 hcv)
    | (go_at_call 19; (with_reducible refine (FX _).mono ?_); rintro e v6 ⟨rfl, hB⟩; have hW6 := (hW5.alloc _).trans hB)
    )
  go_ret
  exact ⟨rfl, hW6⟩
theorem walkRecordOne (W : World) (r : Rec) (hr : r.Fits) (y : Int) (hy : (Lit.int .u8 y).wf = true) (x : Int) (hx : (Lit.int .u8 x).wf = true) :
    Calls Try.prog 6 #[r.value, .int .u8 y, .int .u8 x] W fun e w' => e = .returned (.bool true) ∧ Below W.heap.size W w' := by
  have hcf := Rec.cut_fits hr
  obtain ⟨i, hi, hi2⟩ := at128 hy
  cases hq : r.cut.right with
  | false => exact one_n W r _ rfl hcf hq y x
  | true =>
    by_cases h0 : x = 0
    · exact one_0 W r _ rfl hcf hq y x h0
    · have hb := bounds_u8 hx
      obtain ⟨n, rfl⟩ := Int.eq_ofNat_of_zero_le hb.1
      exact one_y W r _ rfl hcf hq y n (by omega) (by omega) i hi hi2
end Go.Proofs.Ytoofmklghllliaa
