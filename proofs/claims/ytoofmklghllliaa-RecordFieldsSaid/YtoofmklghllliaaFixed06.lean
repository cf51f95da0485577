/- The fixed calls of layer 6. -/
import Derived.Test.YtoofmklghllliaaLaw6
namespace Go.Proofs.Ytoofmklghllliaa
set_option linter.unusedSimpArgs false
set_option linter.unusedVariables false
open Go.RowKit
attribute [local go_sem high] run_mx run_mn

def fixR : Rec := ⟨1, 1, 1, 1, 9, ⟨#[97]⟩, ⟨#[118]⟩⟩
def fixS : ByteArray := fixR.sector
theorem fixR_right : fixR.right = true := by decide +kernel
theorem fixR_fits : fixR.Fits := by
  refine ⟨⟨?_, ?_⟩, ⟨?_, ?_⟩, ⟨?_, ?_⟩, ⟨?_, ?_⟩, ⟨?_, ?_⟩, ?_, ?_⟩ <;> decide
theorem fix_bytes : fixS.size = 128 ∧ (fixS.data.toList.map UInt8.toNat)[0]? = some 1 ∧ (fixS.data.toList.map UInt8.toNat)[8]? = some 1 ∧ (fixS.data.toList.map UInt8.toNat)[12]? = some 1 ∧ (fixS.data.toList.map UInt8.toNat)[13]? = some 1 ∧ (fixS.data.toList.map UInt8.toNat)[14]? = some 1 ∧ (fixS.data.toList.map UInt8.toNat)[15]? = some 1 ∧ (fixS.data.toList.map UInt8.toNat)[23]? = some 9 ∧ (fixS.data.toList.map UInt8.toNat)[31]? = some 97 ∧ (fixS.data.toList.map UInt8.toNat)[32]? = some 118 ∧ (fixS.data.toList.map UInt8.toNat)[33]? = some 0 ∧ (fixS.data.toList.map UInt8.toNat)[116]? = some 1 ∧ (fixS.data.toList.map UInt8.toNat)[124]? = some 1 := by decide +kernel
theorem byte_of {s : ByteArray} {p n : Nat} (hp : p < s.size) (h : (s.data.toList.map UInt8.toNat)[p]? = some n) : s[p].toNat = n := by
  have hl : p < s.data.toList.length := by rw [size_len]; exact hp
  rw [List.getElem?_map, List.getElem?_eq_getElem hl] at h
  injection h with h
theorem fix_dec : decV fixS = .tuple #[.agg #[.int .u64 1, .int .u32 1, .int .i64 1, .int .u64 1, .int .u64 9, .string ⟨#[97]⟩, .string ⟨#[118]⟩], .int .i64 0] := by
  unfold decV fixS; rw [decR_sector fixR fixR_right fixR_fits]; rfl
theorem dec_size {s : ByteArray} (h : s.size ≠ 128) : decV s = .tuple #[.agg #[.int .u64 0, .int .u32 0, .int .i64 0, .int .u64 0, .int .u64 0, .string ⟨#[]⟩, .string ⟨#[]⟩], .int .i64 5] := by
  unfold decV; rw [decR_size h]; rfl
theorem fix_zero : decV (zeroB 128) = .tuple #[.agg #[.int .u64 0, .int .u32 0, .int .i64 0, .int .u64 0, .int .u64 0, .string ⟨#[]⟩, .string ⟨#[]⟩], .int .i64 5] := by
  have : (cand (zeroB 128)).right = false := by decide +kernel
  exact decV_no _ (fun h => by rw [this] at h; cases h.2.1)
theorem fix_next (l ep : Int) : nextV fixS l ep = if 1 = l ∧ 1 = ep then .tuple #[.agg #[.int .u64 1, .int .u32 1, .int .i64 1, .int .u64 1, .int .u64 9, .string ⟨#[97]⟩, .string ⟨#[118]⟩], .bool true] else .tuple #[.agg #[.int .u64 0, .int .u32 0, .int .i64 0, .int .u64 0, .int .u64 0, .string ⟨#[]⟩, .string ⟨#[]⟩], .bool false] := by
  have h0 : nextR fixS l ep = if (1 : Int) = l ∧ (1 : Int) = ep then some fixR else none := by
    unfold nextR fixS; rw [decR_sector fixR fixR_right fixR_fits]; rfl
  unfold nextV
  by_cases h : (1 : Int) = l ∧ (1 : Int) = ep
  · rw [if_pos h, h0, if_pos h]; rfl
  · rw [if_neg h, h0, if_neg h]; rfl
theorem encN (r : Rec) (hr : r.Fits) (h : r.right = true) (u : World) : Calls Try.prog 10 #[r.value] u fun e v => e = .returned (.tuple #[.string r.sector, .int .i64 0]) ∧ Below u.heap.size u v := by
  have := Encode_any r hr u
  rw [h] at this; exact this

set_option maxRecDepth 100000 in
set_option maxHeartbeats 4000000 in
theorem fixed_any (w : World) : Calls Try.prog 19 #[] w fun e w' => e = .returned (.bool true) ∧ Below w.heap.size w w' := by
  have E1 := encN fixR fixR_fits fixR_right
  have E2 := fun u => Encode_no ⟨0, 0, 1, 0, 0, ⟨#[97]⟩, ⟨#[]⟩⟩ (by refine ⟨⟨?_, ?_⟩, ⟨?_, ?_⟩, ⟨?_, ?_⟩, ⟨?_, ?_⟩, ⟨?_, ?_⟩, ?_, ?_⟩ <;> decide) rfl u
  have R1 := fun u => Right_any fixR fixR_fits u
  have R2 := fun u => Right_any ⟨1, 0, 3, 0, 16, ⟨#[]⟩, ⟨#[]⟩⟩ (by refine ⟨⟨?_, ?_⟩, ⟨?_, ?_⟩, ⟨?_, ?_⟩, ⟨?_, ?_⟩, ⟨?_, ?_⟩, ?_, ?_⟩ <;> decide) u
  rw [fixR_right] at R1
  rw [show (Rec.right ⟨1, 0, 3, 0, 16, ⟨#[]⟩, ⟨#[]⟩⟩) = false by decide +kernel] at R2
  rw [show fixR.sector = fixS from rfl] at E1
  obtain ⟨hs, x0, x8, x12, x13, x14, x15, x23, x31, x32, x33, x116, x124⟩ := fix_bytes
  have D1 := fun u => Decode_any fixS u
  rw [fix_dec] at D1
  have D2 := fun u => Decode_any (fixS.extract 1 128) u
  rw [dec_size (by rw [ByteArray.size_extract, hs]; decide)] at D2
  have D3 := fun u => Decode_any (zeroB 128) u
  rw [fix_zero] at D3
  have N1 := fun u => Next_any fixS 1 1 u
  have N2 := fun u => Next_any fixS 2 1 u
  have N3 := fun u => Next_any fixS 1 2 u
  rw [fix_next, if_pos (by decide)] at N1
  rw [fix_next, if_neg (by decide)] at N2
  rw [fix_next, if_neg (by decide)] at N3
  generalize fixS = S at *
  have hs2 : (S.size : Int) = 128 := by omega
  have y0 := byte_of (by omega) x0
  have y8 := byte_of (by omega) x8
  have y12 := byte_of (by omega) x12
  have y13 := byte_of (by omega) x13
  have y14 := byte_of (by omega) x14
  have y15 := byte_of (by omega) x15
  have y23 := byte_of (by omega) x23
  have y31 := byte_of (by omega) x31
  have y32 := byte_of (by omega) x32
  have y33 := byte_of (by omega) x33
  have y116 := byte_of (by omega) x116
  have y124 := byte_of (by omega) x124
  clear x0 x8 x12 x13 x14 x15 x23 x31 x32 x33 x116 x124
  unfold Rec.value fixR at E1 R1
  unfold Rec.value at E2 R2
  have hA := Blk.new w 25 #[.int .u64 1, .int .u32 1, .int .i64 1, .int .u64 1, .int .u64 9, .string ⟨#[97]⟩, .string ⟨#[118]⟩]
  have hW : Below w.heap.size w (w.alloc (.cells #[.int .u64 1, .int .u32 1, .int .i64 1, .int .u64 1, .int .u64 9, .string ⟨#[97]⟩, .string ⟨#[118]⟩] 25)) := (Below.refl _ _).alloc (Nat.le_refl _) _
  go_enter Try.func19, Try.ntmps19
  go_wp2_with (first
    | (go_at_call 10; with_reducible refine (E1 _).mono ?_; rintro e v1 ⟨rfl, hB⟩; have hA1 := hA.below hB hA.lt; have hW1 := hW.trans (hB.mono (Nat.le_of_lt hA.lt)); clear hA hW E1 hB)
    | (go_at_call 13; with_reducible refine (D1 _).mono ?_; rintro e v2 ⟨rfl, hB⟩; have hA2 := hA1.below hB hA1.lt; have hW2 := hW1.trans (hB.mono (Nat.le_of_lt hA1.lt)); have hT := Blk.new v2 25 #[.int .u64 1, .int .u32 1, .int .i64 1, .int .u64 1, .int .u64 9, .string ⟨#[97]⟩, .string ⟨#[118]⟩]; clear hA1 hW1 D1 hB)
    | (go_at_call 13; with_reducible refine (D2 _).mono ?_; rintro e v3 ⟨rfl, hB⟩; have hA3 := hA2.on _ hB; have hT3 := hT.below hB hT.lt; have hW3 := (hW2.alloc (Nat.le_of_lt hA2.lt) _).trans (hB.mono (Nat.le_of_lt (hA2.alloc _).lt)); clear hA2 hW2 hT D2 hB)
    | (go_at_call 20; with_reducible refine (Zero_any _).mono ?_; rintro e v4 ⟨rfl, rfl⟩)
    | (go_at_call 13; with_reducible refine (D3 _).mono ?_; rintro e v5 ⟨rfl, hB⟩; have hA4 := hA3.on _ hB; have hT4 := hT3.on _ hB; have hW4 := (hW3.alloc (Nat.le_of_lt hA3.lt) _).trans (hB.mono (Nat.le_of_lt (hA3.alloc _).lt)); clear hA3 hW3 hT3 D3 hB)
    | (go_at_call 10; with_reducible refine (E2 _).mono ?_; rintro e v6 ⟨rfl, hB⟩; have hA5 := hA4.on _ hB; have hT5 := hT4.on _ hB; have hW5 := (hW4.alloc (Nat.le_of_lt hA4.lt) _).trans (hB.mono (Nat.le_of_lt (hA4.alloc _).lt)); clear hA4 hW4 hT4 E2 hB)
    | (go_at_call 15; with_reducible refine (N1 _).mono ?_; rintro e v7 ⟨rfl, hB⟩; have hA6 := hA5.below hB hA5.lt; have hT6 := hT5.below hB hT5.lt; have hW6 := hW5.trans (hB.mono (Nat.le_of_lt hA5.lt)); clear hA5 hW5 hT5 N1 hB)
    | (go_at_call 15; with_reducible refine (N2 _).mono ?_; rintro e v8 ⟨rfl, hB⟩; have hA7 := hA6.on _ hB; have hT7 := hT6.on _ hB; have hW7 := (hW6.alloc (Nat.le_of_lt hA6.lt) _).trans (hB.mono (Nat.le_of_lt (hA6.alloc _).lt)); clear hA6 hW6 hT6 N2 hB)
    | (go_at_call 15; with_reducible refine (N3 _).mono ?_; rintro e v9 ⟨rfl, hB⟩; have hA8 := hA7.on _ hB; have hT8 := hT7.on _ hB; have hW8 := (hW7.alloc (Nat.le_of_lt hA7.lt) _).trans (hB.mono (Nat.le_of_lt (hA7.alloc _).lt)); obtain ⟨p0, p1, p2, p3, p4, p5, p6⟩ := keep7 hA8 (Below.refl _ _); obtain ⟨q0, q1, q2, q3, q4, q5, q6⟩ := keep7 hT8 (Below.refl _ _); have hl1 := hA8.lt; have hl2 := hT8.lt; clear hA7 hW7 hT7 N3 hB)
    | (go_at_call 17; with_reducible refine (R1 _).mono ?_; rintro e v10 ⟨rfl, hB⟩; have hA9 := hA8.on _ hB; have hW9 := (hW8.alloc (Nat.le_of_lt hA8.lt) _).trans (hB.mono (Nat.le_of_lt (hA8.alloc _).lt)); clear hA8 hW8 hT8 R1 hB)
    | (go_at_call 17; with_reducible refine (R2 _).mono ?_; rintro e v11 ⟨rfl, hB⟩; have hW10 := hW9.trans (hB.mono (Nat.le_of_lt hA9.lt)); clear hA9 hW9 R2 hB))
  go_ret
  exact ⟨rfl, hW10⟩
theorem fixedN (w : World) : Calls Try.prog 19 #[] w fun e v => e = .returned (.bool true) ∧ Newer w v := fixed_any w
end Go.Proofs.Ytoofmklghllliaa
