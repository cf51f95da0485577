/- What the laws of this seat lean on, part 5. -/
import Derived.Test.YthlbciinpidedaaGreatZK3
import Derived.Test.YthlbciinpidedaaGreatZK4
import Derived.Deep.RegionHeld3
import Derived.Deep.DeepCutAuto
/- record.Right, and a record's sector. -/
namespace Go.Proofs.YthlbciinpidedaaGreat
set_option linter.unusedSimpArgs false
set_option linter.unusedVariables false
set_option maxRecDepth 100000
open Go.RowKit
attribute [local go_sem high] run_mx run_mn

/-- One record. -/
structure Rec where
  lsn : Int
  epoch : Int
  kind : Int
  ver : Int
  dl : Int
  id : ByteArray
  val : ByteArray
def Rec.value (r : Rec) : Value := .agg #[.int .u64 r.lsn, .int .u32 r.epoch, .int .i64 r.kind, .int .u64 r.ver, .int .u64 r.dl, .string r.id, .string r.val]
/-- Its numbers are of their kinds, its texts not beyond all bounds. -/
structure Rec.Fits (r : Rec) : Prop where
  lsn : 0 ≤ r.lsn ∧ r.lsn < 18446744073709551616
  epoch : 0 ≤ r.epoch ∧ r.epoch < 4294967296
  kind : -9223372036854775808 ≤ r.kind ∧ r.kind ≤ 9223372036854775807
  ver : 0 ≤ r.ver ∧ r.ver < 18446744073709551616
  dl : 0 ≤ r.dl ∧ r.dl < 18446744073709551616
  id : r.id.size ≤ 9223372036854775807
  val : r.val.size ≤ 9223372036854775807
/-- May it be? -/
def Rec.right (r : Rec) : Bool :=
  if (r.lsn == 0) = true then false
  else if (r.kind == 1) = true then okID r.id.data.toList && okValue r.val.data.toList
  else if (r.kind == 2) = true then okID r.id.data.toList && (r.val.toList.isEmpty && r.dl == 0)
  else if (r.kind == 3) = true then r.id.toList.isEmpty && (r.val.toList.isEmpty && (r.ver == 0 && decide (r.dl < 16)))
  else false

set_option maxRecDepth 100000 in
set_option maxHeartbeats 4000000 in
theorem Right_any (r : Rec) (hr : r.Fits) (w : World) : Calls Tryz.prog 55 #[r.value] w fun e w' => e = .returned (.bool r.right) ∧ Below w.heap.size w w' := by
  unfold Rec.value
  have hB : Below w.heap.size w (w.alloc (.cells #[.int .u64 r.lsn, .int .u32 r.epoch, .int .i64 r.kind, .int .u64 r.ver, .int .u64 r.dl, .string r.id, .string r.val] 42)) := (Below.refl _ _).alloc (Nat.le_refl _) _
  have hid := hr.id
  go_enter Tryz.func55, Tryz.ntmps55
  go_wp2_with (first
    | (go_at_call 101; refine (ID_any _ hid _).mono ?_; rintro e w' ⟨rfl, rfl⟩)
    | (go_at_call 102; refine (Value_any _ _).mono ?_; rintro e w' ⟨rfl, rfl⟩))
  all_goals
    go_ret
    refine ⟨?_, ?_⟩
    · simp_all [Rec.right]
    · simp_all
theorem okID_size {s : ByteArray} (h : okID s.data.toList = true) : 1 ≤ s.size ∧ s.size ≤ 16 := by
  have hl : s.data.toList.length = s.size := by rw [Array.length_toList]; rfl
  unfold okID at h
  rw [hl] at h
  simp at h
  omega
theorem okValue_size {s : ByteArray} (h : okValue s.data.toList = true) : s.size ≤ 64 := by
  have hl : s.data.toList.length = s.size := by rw [Array.length_toList]; rfl
  unfold okValue at h
  rw [hl] at h
  simpa using h
theorem nil_size {s : ByteArray} (h : s.toList.isEmpty = true) : s.size = 0 := by
  rw [ByteArray.toList_eq, List.isEmpty_iff] at h
  have hl : s.data.toList.length = s.size := by rw [Array.length_toList]; rfl
  rw [h] at hl
  exact hl.symm
theorem Rec.sizes {r : Rec} (h : r.right = true) : r.id.size ≤ 16 ∧ r.val.size ≤ 64 ∧ (1 ≤ r.kind ∧ r.kind ≤ 3) ∧ r.lsn ≠ 0 := by
  unfold Rec.right at h
  by_cases h0 : (r.lsn == 0) = true
  · rw [if_pos h0] at h; cases h
  rw [if_neg h0] at h
  have hz : r.lsn ≠ 0 := by simpa using h0
  by_cases h1 : (r.kind == 1) = true
  · rw [if_pos h1] at h
    simp only [Bool.and_eq_true] at h
    have := okID_size h.1
    have := okValue_size h.2
    have : r.kind = 1 := by simpa using h1
    exact ⟨by omega, by omega, by omega, hz⟩
  rw [if_neg h1] at h
  by_cases h2 : (r.kind == 2) = true
  · rw [if_pos h2] at h
    simp only [Bool.and_eq_true] at h
    have := okID_size h.1
    have := nil_size h.2.1
    have : r.kind = 2 := by simpa using h2
    exact ⟨by omega, by omega, by omega, hz⟩
  rw [if_neg h2] at h
  by_cases h3 : (r.kind == 3) = true
  · rw [if_pos h3] at h
    simp only [Bool.and_eq_true] at h
    have := nil_size h.1
    have := nil_size h.2.1
    have : r.kind = 3 := by simpa using h3
    exact ⟨by omega, by omega, by omega, hz⟩
  rw [if_neg h3] at h
  cases h

/-- Three bytes: kind and lengths. -/
def Rec.three (r : Rec) : ByteArray := ⟨#[UInt8.ofNat r.kind.toNat, UInt8.ofNat r.id.size, UInt8.ofNat r.val.size]⟩
def Rec.head (r : Rec) : ByteArray := putB r.lsn 8 ++ putB r.epoch 4 ++ r.three ++ putB r.ver 8 ++ putB r.dl 8 ++ r.id ++ r.val
def zeroB (k : Nat) : ByteArray := ⟨(List.replicate k (0 : UInt8)).toArray⟩
def Rec.body (r : Rec) : ByteArray := r.head ++ zeroB (112 - r.head.size)
/-- A record's sector. -/
def Rec.sector (r : Rec) : ByteArray := r.body ++ putB (crcOf r.body.data.toList) 4 ++ putB r.lsn 8 ++ putB r.epoch 4
theorem zeroB_size (k : Nat) : (zeroB k).size = k := by show (List.replicate k (0 : UInt8)).toArray.size = k; simp
theorem Rec.head_size (r : Rec) : r.head.size = 31 + r.id.size + r.val.size := by
  unfold Rec.head
  simp only [ByteArray.size_append, putB_size]
  show 8 + 4 + 3 + 8 + 8 + r.id.size + r.val.size = _
  omega
theorem Rec.body_size {r : Rec} (h : r.right = true) : r.body.size = 112 := by
  have := r.head_size
  have := Rec.sizes h
  unfold Rec.body
  rw [ByteArray.size_append, zeroB_size]; omega
theorem Rec.sector_size {r : Rec} (h : r.right = true) : r.sector.size = 128 := by
  unfold Rec.sector
  simp only [ByteArray.size_append, putB_size, Rec.body_size h]
theorem three_blk (w : World) (a b c : Int) (ha : 0 ≤ a ∧ a ≤ 255) (hb : 0 ≤ b ∧ b ≤ 255) (hc : 0 ≤ c ∧ c ≤ 255) : ByteBlk (w.alloc (.cells #[.int .u8 a, .int .u8 b, .int .u8 c] 5)) w.heap.size [UInt8.ofNat a.toNat, UInt8.ofNat b.toNat, UInt8.ofNat c.toNat] := by
  have hv : ∀ x : Int, 0 ≤ x ∧ x ≤ 255 → ((UInt8.ofNat x.toNat).toNat : Int) = x := fun x hx => by
    rw [UInt8.toNat_ofNat', Nat.mod_eq_of_lt (by omega)]; omega
  have h := Blk.new w 5 #[.int .u8 a, .int .u8 b, .int .u8 c]
  refine ⟨fun j hj => ?_, fun j _ => h.frozen j⟩
  rw [h.cell]
  have hj : j < 3 := hj
  match j, hj with
  | 0, _ => show some (Value.int .u8 a) = some (.int .u8 ((UInt8.ofNat a.toNat).toNat : Int)); rw [hv a ha]
  | 1, _ => show some (Value.int .u8 b) = some (.int .u8 ((UInt8.ofNat b.toNat).toNat : Int)); rw [hv b hb]
  | 2, _ => show some (Value.int .u8 c) = some (.int .u8 ((UInt8.ofNat c.toNat).toNat : Int)); rw [hv c hc]
theorem conv_three (w : World) (a b c : Int) (ha : 0 ≤ a ∧ a ≤ 255) (hb : 0 ≤ b ∧ b ≤ 255) (hc : 0 ≤ c ∧ c ≤ 255) : (convert 50 9 (.slice (some ⟨w.heap.size, 0, none⟩) 3 3)).run Tryz.prog (w.alloc (.cells #[.int .u8 a, .int .u8 b, .int .u8 c] 5)) = .ok (.string ⟨#[UInt8.ofNat a.toNat, UInt8.ofNat b.toNat, UInt8.ofNat c.toNat]⟩) (w.alloc (.cells #[.int .u8 a, .int .u8 b, .int .u8 c] 5)) :=
  run_toString _ Tryz.underlying50 Tryz.underlying5 Tryz.underlying9 (three_blk w a b c ha hb hc) rfl
theorem conv_threeN (u : World) (x y z : Int) (hx : 0 ≤ x ∧ x ≤ 255) (hy : 0 ≤ y ∧ y ≤ 255) (hz : 0 ≤ z ∧ z ≤ 255) (v : World) (hv : Newer (u.alloc (.cells #[.int .u8 x, .int .u8 y, .int .u8 z] 5)) v) :
    (convert 50 9 (.slice (some ⟨u.heap.size, 0, none⟩) 3 3)).run Tryz.prog v = .ok (.string ⟨#[UInt8.ofNat x.toNat, UInt8.ofNat y.toNat, UInt8.ofNat z.toNat]⟩) v :=
  run_toString _ Tryz.underlying50 Tryz.underlying5 Tryz.underlying9 ((three_blk u x y z hx hy hz).of_block (hv.block u.heap.size (by simp))) rfl
theorem run_add (a b : ByteArray) (ha : a.size ≤ 1000) (hb : b.size ≤ 1000) (w : World) : (Op.stringOp .add a b).run Tryz.prog w = .ok (.string (a ++ b)) w := by
  rw [run_string_add_sum]; omega
theorem Repeat_zeros (k : Nat) (hk : k ≤ 112) (w : World) : Calls Tryz.prog 122 #[.string (ByteArray.mk #[0]), .int .i64 k] w fun e w' => e = .returned (.string (zeroB k)) ∧ Below w.heap.size w w' := by
  have e : (⟨(Lib.repeatL (ByteArray.mk #[0]).data.toList k).toArray⟩ : ByteArray) = zeroB k := by
    have : ∀ k, Lib.repeatL (ByteArray.mk #[0]).data.toList k = List.replicate k (0 : UInt8) := by
      intro k
      induction k with
      | zero => rfl
      | succ k ih => show [0] ++ Lib.repeatL _ k = _; rw [ih]; rfl
    rw [this]; rfl
  have h := Tryz.strings_Repeat (ByteArray.mk #[0]) k w (by omega) (by show 1 * k ≤ _; omega)
  rw [e] at h
  exact h

theorem keep7 {w' v : World} {b : Nat} {t : TypeId} {x0 x1 x2 x3 x4 x5 x6 : Value} (hb : Blk w' b t #[x0, x1, x2, x3, x4, x5, x6]) (hE : Below (b + 1) w' v) :
    v.cell? ⟨b, 0, none⟩ = some x0 ∧ v.cell? ⟨b, 1, none⟩ = some x1 ∧ v.cell? ⟨b, 2, none⟩ = some x2 ∧ v.cell? ⟨b, 3, none⟩ = some x3 ∧ v.cell? ⟨b, 4, none⟩ = some x4 ∧ v.cell? ⟨b, 5, none⟩ = some x5 ∧ v.cell? ⟨b, 6, none⟩ = some x6 := by
  have h := hb.below hE (Nat.lt_succ_self b)
  exact ⟨h.cell 0, h.cell 1, h.cell 2, h.cell 3, h.cell 4, h.cell 5, h.cell 6⟩
theorem keep2 {w' v : World} {b : Nat} {t : TypeId} {x0 x1 x2 x3 x4 x5 x6 : Value} (hb : Blk w' b t #[x0, x1, x2, x3, x4, x5, x6]) (hE : Below (b + 1) w' v) :
    v.cell? ⟨b, 0, none⟩ = some x0 ∧ v.cell? ⟨b, 1, none⟩ = some x1 := ⟨(keep7 hb hE).1, (keep7 hb hE).2.1⟩
theorem PutE (n : Int) (k : Nat) (hk : k ≤ 8) (hn : 0 ≤ n ∧ n < 18446744073709551616) {w' u : World} {b : Nat} (hE : Below (b + 1) w' u) (hb : b < w'.heap.size) :
    Calls Tryz.prog 126 #[.int .u64 n, .int .i64 k] u fun e v => e = .returned (.string (putB n k)) ∧ Below (b + 1) w' v ∧ Below u.heap.size u v :=
  (Put_any n k hk hn u).mono fun _ _ ⟨he, hB⟩ => ⟨he, hE.trans (hB.mono (by have := hE.size; omega)), hB⟩
theorem PutEA (n : Int) (k : Nat) (hk : k ≤ 8) (hn : 0 ≤ n ∧ n < 18446744073709551616) {w' u : World} {b : Nat} {x y z : Int} (hE : Below (b + 1) w' u) (hb : b < w'.heap.size) (hx : 0 ≤ x ∧ x ≤ 255) (hy : 0 ≤ y ∧ y ≤ 255) (hz : 0 ≤ z ∧ z ≤ 255) :
    Calls Tryz.prog 126 #[.int .u64 n, .int .i64 k] (u.alloc (.cells #[.int .u8 x, .int .u8 y, .int .u8 z] 5)) fun e v => e = .returned (.string (putB n k)) ∧ Below (b + 1) w' v ∧
      (convert 50 9 (.slice (some ⟨u.heap.size, 0, none⟩) 3 3)).run Tryz.prog v = .ok (.string ⟨#[UInt8.ofNat x.toNat, UInt8.ofNat y.toNat, UInt8.ofNat z.toNat]⟩) v ∧
      ∀ v2, Below v.heap.size v v2 → (convert 50 9 (.slice (some ⟨u.heap.size, 0, none⟩) 3 3)).run Tryz.prog v2 = .ok (.string ⟨#[UInt8.ofNat x.toNat, UInt8.ofNat y.toNat, UInt8.ofNat z.toNat]⟩) v2 := by
  have hbig : ∀ v2, Below (u.heap.size + 1) (u.alloc (.cells #[.int .u8 x, .int .u8 y, .int .u8 z] 5)) v2 → (convert 50 9 (.slice (some ⟨u.heap.size, 0, none⟩) 3 3)).run Tryz.prog v2 = .ok (.string ⟨#[UInt8.ofNat x.toNat, UInt8.ofNat y.toNat, UInt8.ofNat z.toNat]⟩) v2 := fun v2 hv => by
    have hB := three_blk u x y z hx hy hz
    exact run_toString _ Tryz.underlying50 Tryz.underlying5 Tryz.underlying9 (hB.of_block (hv.block u.heap.size (Nat.lt_succ_self _))) rfl
  exact (Put_any n k hk hn _).mono fun _ v ⟨he, hB⟩ => by
    have h1 : Below (u.heap.size + 1) (u.alloc (.cells #[.int .u8 x, .int .u8 y, .int .u8 z] 5)) v := hB.mono (by simp)
    have h2 : u.heap.size + 1 ≤ v.heap.size := Nat.le_trans (by simp) hB.size
    exact ⟨he, (hE.alloc (by have := hE.size; omega) _).trans (hB.mono (by have := hE.size; simp; omega)), hbig v h1, fun v2 h => hbig v2 (h1.trans (h.mono h2))⟩

theorem PutN8 (n : Int) (hn : 0 ≤ n ∧ n < 18446744073709551616) (u : World) : Calls Tryz.prog 126 #[.int .u64 n, .int .i64 8] u fun e v => e = .returned (.string (putB n 8)) ∧ Newer u v := Put_any n 8 (by omega) hn u
theorem PutN4 (n : Int) (hn : 0 ≤ n ∧ n < 18446744073709551616) (u : World) : Calls Tryz.prog 126 #[.int .u64 n, .int .i64 4] u fun e v => e = .returned (.string (putB n 4)) ∧ Newer u v := Put_any n 4 (by omega) hn u
theorem SumN (s : ByteArray) (hs : s.size ≤ 1000) (u : World) : Calls Tryz.prog 127 #[.string s] u fun e v => e = .returned (.int .u32 (crcOf s.data.toList)) ∧ Newer u v := Sum_any s (by omega) u
theorem PutE8 (n : Int) (hn : 0 ≤ n ∧ n < 18446744073709551616) {w' u : World} {b : Nat} (hE : Below (b + 1) w' u) (hb : b < w'.heap.size) :
    Calls Tryz.prog 126 #[.int .u64 n, .int .i64 8] u fun e v => e = .returned (.string (putB n 8)) ∧ Below (b + 1) w' v ∧ Below u.heap.size u v := PutE n 8 (by omega) hn hE hb
theorem PutE4 (n : Int) (hn : 0 ≤ n ∧ n < 18446744073709551616) {w' u : World} {b : Nat} (hE : Below (b + 1) w' u) (hb : b < w'.heap.size) :
    Calls Tryz.prog 126 #[.int .u64 n, .int .i64 4] u fun e v => e = .returned (.string (putB n 4)) ∧ Below (b + 1) w' v ∧ Below u.heap.size u v := PutE n 4 (by omega) hn hE hb
def ConvAt (b : Nat) (t : ByteArray) (v : World) : Prop := (convert 50 9 (.slice (some ⟨b, 0, none⟩) 3 3)).run Tryz.prog v = .ok (.string t) v
theorem PutEA8 (n : Int) (hn : 0 ≤ n ∧ n < 18446744073709551616) {w' u : World} {b : Nat} {x y z : Int} (hE : Below (b + 1) w' u) (hb : b < w'.heap.size) (hx : 0 ≤ x ∧ x ≤ 255) (hy : 0 ≤ y ∧ y ≤ 255) (hz : 0 ≤ z ∧ z ≤ 255) {t : ByteArray} (ht : (⟨#[UInt8.ofNat x.toNat, UInt8.ofNat y.toNat, UInt8.ofNat z.toNat]⟩ : ByteArray) = t) :
    Calls Tryz.prog 126 #[.int .u64 n, .int .i64 8] (u.alloc (.cells #[.int .u8 x, .int .u8 y, .int .u8 z] 5)) fun e v => e = .returned (.string (putB n 8)) ∧ Below (b + 1) w' v ∧ ConvAt u.heap.size t v ∧ ∀ v2, Below v.heap.size v v2 → ConvAt u.heap.size t v2 := ht ▸ PutEA n 8 (by omega) hn hE hb hx hy hz
theorem PutEAd8 (n : Int) (hn : 0 ≤ n ∧ n < 18446744073709551616) {w' u : World} {b : Nat} {x y z : Int} (hE : Below (b + 1) w' u.drew) (hb : b < w'.heap.size) (hx : 0 ≤ x ∧ x ≤ 255) (hy : 0 ≤ y ∧ y ≤ 255) (hz : 0 ≤ z ∧ z ≤ 255) {t : ByteArray} (ht : (⟨#[UInt8.ofNat x.toNat, UInt8.ofNat y.toNat, UInt8.ofNat z.toNat]⟩ : ByteArray) = t) :
    Calls Tryz.prog 126 #[.int .u64 n, .int .i64 8] (u.alloc (.cells #[.int .u8 x, .int .u8 y, .int .u8 z] 5)).drew fun e v => e = .returned (.string (putB n 8)) ∧ Below (b + 1) w' v ∧ ConvAt u.heap.size t v ∧ ∀ v2, Below v.heap.size v v2 → ConvAt u.heap.size t v2 := PutEA8 (u := u.drew) n hn hE hb hx hy hz ht
theorem PutEA4 (n : Int) (hn : 0 ≤ n ∧ n < 18446744073709551616) {w' u : World} {b : Nat} {x y z : Int} (hE : Below (b + 1) w' u) (hb : b < w'.heap.size) (hx : 0 ≤ x ∧ x ≤ 255) (hy : 0 ≤ y ∧ y ≤ 255) (hz : 0 ≤ z ∧ z ≤ 255) {t : ByteArray} (ht : (⟨#[UInt8.ofNat x.toNat, UInt8.ofNat y.toNat, UInt8.ofNat z.toNat]⟩ : ByteArray) = t) :
    Calls Tryz.prog 126 #[.int .u64 n, .int .i64 4] (u.alloc (.cells #[.int .u8 x, .int .u8 y, .int .u8 z] 5)) fun e v => e = .returned (.string (putB n 4)) ∧ Below (b + 1) w' v ∧ ConvAt u.heap.size t v ∧ ∀ v2, Below v.heap.size v v2 → ConvAt u.heap.size t v2 := ht ▸ PutEA n 4 (by omega) hn hE hb hx hy hz

theorem RepE (k : Nat) (hk : k ≤ 112) {w' u : World} {b : Nat} (hE : Below (b + 1) w' u) (hb : b < w'.heap.size) :
    Calls Tryz.prog 122 #[.string (ByteArray.mk #[0]), .int .i64 k] u fun e v => e = .returned (.string (zeroB k)) ∧ Below (b + 1) w' v :=
  (Repeat_zeros k hk u).mono fun _ _ ⟨he, hB⟩ => ⟨he, hE.trans (hB.mono (by have := hE.size; omega))⟩
theorem RepEA (k : Nat) (hk : k ≤ 112) {w' u : World} {b : Nat} (o : Obj) (hE : Below (b + 1) w' u) (hb : b < w'.heap.size) :
    Calls Tryz.prog 122 #[.string (ByteArray.mk #[0]), .int .i64 k] (u.alloc o) fun e v => e = .returned (.string (zeroB k)) ∧ Below (b + 1) w' v :=
  RepE k hk (hE.alloc (by have := hE.size; omega) o) hb
theorem SumE (s : ByteArray) (hs : s.size ≤ 1000) {w' u : World} {b : Nat} (hE : Below (b + 1) w' u) (hb : b < w'.heap.size) :
    Calls Tryz.prog 127 #[.string s] u fun e v => e = .returned (.int .u32 (crcOf s.data.toList)) ∧ Below (b + 1) w' v :=
  (Sum_any s (by omega) u).mono fun _ _ ⟨he, hB⟩ => ⟨he, hE.trans (hB.mono (by have := hE.size; omega))⟩

set_option maxRecDepth 100000 in
set_option maxHeartbeats 4000000 in
theorem Encode_no (r : Rec) (hr : r.Fits) (hn : r.right = false) (w : World) : Calls Tryz.prog 94 #[r.value] w fun e w' => e = .returned (.tuple #[.string ⟨#[]⟩, .int .i64 5]) ∧ Below w.heap.size w w' := by
  have hR := Right_any r hr
  rw [hn] at hR
  unfold Rec.value at hR ⊢
  go_enter Tryz.func94, Tryz.ntmps94
  go_wp2_with (first | (go_at_call 55; with_reducible refine (hR _).mono ?_; rintro e w' ⟨rfl, hB⟩))
  go_ret2
  exact ⟨rfl, ((Below.refl _ _).alloc (Nat.le_refl _) _).trans (hB.mono (by simp))⟩
set_option maxRecDepth 100000 in
set_option maxHeartbeats 4000000 in
theorem Encode_yes (r : Rec) (hr : r.Fits) (hn : r.right = true) (w : World) : Calls Tryz.prog 94 #[r.value] w fun e w' => e = .returned (.tuple #[.string r.sector, .int .i64 0]) ∧ Below w.heap.size w w' := by
  have hR := Right_any r hr
  rw [hn] at hR
  have hsz := Rec.sizes hn
  unfold Rec.value at hR ⊢
  go_enter Tryz.func94, Tryz.ntmps94
  go_upto_region 3 with (first | (go_at_call 55; with_reducible refine (hR _).mono ?_; rintro e w' ⟨rfl, hB⟩))
  have hbl := (Blk.new w 42 #[.int .u64 r.lsn, .int .u32 r.epoch, .int .i64 r.kind, .int .u64 r.ver, .int .u64 r.dl, .string r.id, .string r.val]).below hB (by simp)
  have hW : Below w.heap.size w w' := ((Below.refl _ _).alloc (Nat.le_refl _) _).trans (hB.mono (by simp))
  have hlt : w.heap.size < w'.heap.size := Nat.lt_of_lt_of_le (by simp) hB.size
  clear hB hR
  have hl1 := hr.lsn
  have hl2 : 0 ≤ r.epoch ∧ r.epoch < 18446744073709551616 := by have := hr.epoch; omega
  have hl3 := hr.ver
  have hl4 := hr.dl
  have hk1 : 0 ≤ r.kind ∧ r.kind ≤ 255 := by omega
  have hk2 : 0 ≤ (r.id.size : Int) ∧ (r.id.size : Int) ≤ 255 := by omega
  have hk3 : 0 ≤ (r.val.size : Int) ∧ (r.val.size : Int) ≤ 255 := by omega
  have hths : r.three.size = 3 := rfl
  have g1 := run_add (putB r.lsn 8) (putB r.epoch 4) (by rw [putB_size]; omega) (by rw [putB_size]; omega)
  have g2 := run_add (putB r.lsn 8 ++ putB r.epoch 4) r.three (by simp only [ByteArray.size_append, putB_size]; omega) (by omega)
  have g3 := run_add (putB r.lsn 8 ++ putB r.epoch 4 ++ r.three) (putB r.ver 8) (by simp only [ByteArray.size_append, putB_size, hths]; omega) (by rw [putB_size]; omega)
  have g4 := run_add (putB r.lsn 8 ++ putB r.epoch 4 ++ r.three ++ putB r.ver 8) (putB r.dl 8) (by simp only [ByteArray.size_append, putB_size, hths]; omega) (by rw [putB_size]; omega)
  have g5 := run_add (putB r.lsn 8 ++ putB r.epoch 4 ++ r.three ++ putB r.ver 8 ++ putB r.dl 8) r.id (by simp only [ByteArray.size_append, putB_size, hths]; omega) (by omega)
  have g6 := run_add (putB r.lsn 8 ++ putB r.epoch 4 ++ r.three ++ putB r.ver 8 ++ putB r.dl 8 ++ r.id) r.val (by simp only [ByteArray.size_append, putB_size, hths]; omega) (by omega)
  have hhs := r.head_size
  have hwe : IntKind.u64.wrap r.epoch = r.epoch := by rw [IntKind.wrap_u64]; omega
  have hwk : IntKind.u8.wrap r.kind = r.kind := by rw [IntKind.wrap_u8]; omega
  have hwi : IntKind.u8.wrap (r.id.size : Int) = r.id.size := by rw [IntKind.wrap_u8]; omega
  have hwv : IntKind.u8.wrap (r.val.size : Int) = r.val.size := by rw [IntKind.wrap_u8]; omega
  have hcell := fun w1 (h : Newer w'.drew w1) => keep7 (w' := w'.drew) hbl (h.mono hlt)
  refine wp_region_ord Newer.grow [(0, true), (1, true), (2, true), (3, true), (4, true), (5, true), (6, true), (7, true), (8, true), (9, true), (10, true), (11, true), (12, true), (13, true), (14, true), (15, true), (16, true), (17, true), (18, true), (22, true), (23, true), (24, true), (26, true), (27, true), (28, true), (30, true), (31, true), (33, true), (34, true), (19, false), (20, true), (21, true), (25, true), (29, true), (32, true), (35, true), (36, true)] [] (by kernel_rfl) (by kernel_rfl) rfl (by kernel_rfl) (by intro _ _ d _ _ h; cases d <;> exact h) ?_
  have hC : ∀ w1, Newer w'.drew w1 → w'.heap.size ≤ w1.heap.size := fun w1 h => h.size
  iterate 29
    (apply wpOrd_take
     · exact rfl
     · intro w1 h1
       (obtain ⟨c0, c1, c2, c3, c4, c5, c6⟩ := hcell w1 h1)
       go_simp
       first
         | with_reducible exact ⟨rfl, Newer.grow.refl _⟩
         | with_reducible exact PutN8 _ hl1 _ | with_reducible exact PutN4 _ hl2 _ | with_reducible exact PutN8 _ hl3 _ | with_reducible exact PutN8 _ hl4 _
     simp only [Act.put, List.setIfInBounds_toArray, List.set_cons_zero, List.set_cons_succ])
  refine wpOrd_do rfl ?_
  intro w2 h2 K hK
  go_simp
  have h3 : Newer w2 (w2.alloc (.cells #[.int .u8 r.kind, .int .u8 r.id.size, .int .u8 r.val.size] 5)) := (Below.refl _ _).alloc (Nat.le_refl _) _
  refine hK _ _ h3 ?_
  clear hK K
  have hcv := conv_threeN w2 r.kind r.id.size r.val.size hk1 hk2 hk3
  rw [show (⟨#[UInt8.ofNat r.kind.toNat, UInt8.ofNat (r.id.size : Int).toNat, UInt8.ofNat (r.val.size : Int).toNat]⟩ : ByteArray) = r.three from rfl] at hcv
  have hx := fun w1 (h : Newer _ w1) => Newer.grow.trans _ _ _ h2 (Newer.grow.trans _ _ _ h3 h)
  generalize w2.alloc (.cells #[.int .u8 r.kind, .int .u8 r.id.size, .int .u8 r.val.size] 5) = w3 at *
  iterate 7
    (apply wpOrd_take
     · exact rfl
     · intro w1 h1
       (have cv := hcv w1 h1)
       go_simp
       first
         | with_reducible exact ⟨rfl, Newer.grow.refl _⟩
     simp only [Act.put, List.setIfInBounds_toArray, List.set_cons_zero, List.set_cons_succ])
  refine wpOrd_done fun w4 h4 => ?_
  have h5 : Newer w'.drew w4 := hx w4 h4
  have hcell2 := fun w1 (h : Newer w4 w1) => keep2 (w' := w'.drew) hbl ((Newer.grow.trans _ _ _ h5 h).mono hlt)
  clear g1 g2 g3 g4 g5 g6 hcell hcv hwi hwv hwk
  rw [show putB r.lsn 8 ++ putB r.epoch 4 ++ r.three ++ putB r.ver 8 ++ putB r.dl 8 ++ r.id ++ r.val = r.head from rfl]
  have hB4 : Newer w w4 := Newer.trans hW h5.undrew
  have hrk : 112 - r.head.size ≤ 112 := by omega
  have hrv : (112 : Int) - (r.head.size : Int) = ((112 - r.head.size : Nat) : Int) := by omega
  have hra := run_add r.head (zeroB (112 - r.head.size)) (by omega) (by rw [zeroB_size]; omega)
  rw [show r.head ++ zeroB (112 - r.head.size) = r.body from rfl] at hra
  have hh111 : (r.head.size : Int) ≤ 111 := by omega
  have hwr : wrap64 (112 - (r.head.size : Int)) = ((112 - r.head.size : Nat) : Int) := by unfold wrap64; omega
  have hcl := crcOf_lt r.body.data.toList
  have hbs := Rec.body_size hn
  have hwc : IntKind.u64.wrap (crcOf r.body.data.toList : Int) = (crcOf r.body.data.toList : Int) := by rw [IntKind.wrap_u64]; omega
  have hlc : 0 ≤ (crcOf r.body.data.toList : Int) ∧ (crcOf r.body.data.toList : Int) < 18446744073709551616 := by omega
  have s1 := run_add r.body (putB (crcOf r.body.data.toList) 4) (by omega) (by rw [putB_size]; omega)
  have s2 := run_add (r.body ++ putB (crcOf r.body.data.toList) 4) (putB r.lsn 8) (by simp only [ByteArray.size_append, putB_size]; omega) (by rw [putB_size]; omega)
  have s3 := run_add (r.body ++ putB (crcOf r.body.data.toList) 4 ++ putB r.lsn 8) (putB r.epoch 4) (by simp only [ByteArray.size_append, putB_size]; omega) (by rw [putB_size]; omega)
  rw [show r.body ++ putB (crcOf r.body.data.toList) 4 ++ putB r.lsn 8 ++ putB r.epoch 4 = r.sector from rfl] at s3
  have hSum := fun u => SumN r.body (by omega) u
  clear hx h2 h3 h5 hhs
  go_wp2_with (first
    | (go_at_call 122; with_reducible refine (Repeat_zeros _ hrk _).mono ?_; rintro e v ⟨rfl, hE2⟩))
  have hcell3 := fun w1 (h : Newer v.drew w1) => hcell2 w1 (Newer.trans hE2 h.undrew)
  refine wp_region_ord Newer.grow [(0, true), (1, true), (2, true), (3, true), (4, true), (5, true), (6, true), (7, true), (8, true), (9, true), (10, true), (11, true), (12, true), (13, true), (14, true), (15, true), (16, true)] [] (by kernel_rfl) (by kernel_rfl) rfl (by kernel_rfl) (by intro _ _ d _ _ h; cases d <;> exact h) ?_
  iterate 17
    (apply wpOrd_take
     · exact rfl
     · intro w1 h1
       (obtain ⟨c0, c1⟩ := hcell3 w1 h1)
       go_simp
       first
         | with_reducible exact ⟨rfl, Newer.grow.refl _⟩
         | with_reducible exact PutN8 _ hl1 _ | with_reducible exact PutN4 _ hl2 _ | with_reducible exact PutN4 _ hlc _ | with_reducible exact hSum _
     simp only [Act.put, List.setIfInBounds_toArray, List.set_cons_zero, List.set_cons_succ])
  refine wpOrd_done fun w6 h6 => ?_
  go_wp2_with fail
  go_ret2
  exact ⟨rfl, hB4.trans (Newer.trans hE2 h6.undrew)⟩
end Go.Proofs.YthlbciinpidedaaGreat
