/- record.Decode and record.Next. -/
import Derived.Test.YtoofmklghllliaaRecord
import Derived.Laws.ResultCell
namespace Go.Proofs.Ytoofmklghllliaa
set_option linter.unusedSimpArgs false
set_option linter.unusedVariables false
open Go.RowKit
attribute [local go_sem high] run_mx run_mn

theorem run_store_fn (w : World) (a : Addr) (f : Fn) (x y : Array Value) (u : Value) (hc : w.cell? a = some u) (hf : w.frozen? a = false) : (store a (.func f x y)).run Try.prog w = .ok () (w.setCell a (.func f x y)) := by
  rw [run_store _ _ _ _ _ rfl]
  simp [hc, hf]
/-- Decode's two captured variables: the bytes that are left, and how they are taken. -/
structure Left (w : World) (b : Nat) (s : ByteArray) : Prop where
  rest : Blk w b 9 #[.string s]
  fn : Blk w (b + 1) 57 #[.func (Fn.func 27) #[] #[.pointer (some ⟨b, 0, none⟩)]]
/-- The number in a field. -/
def fld (s : ByteArray) (p m : Nat) : Nat := leN ((s.data.toList.drop p).take m)
theorem extract_left (s : ByteArray) (p m : Nat) (h : p + m ≤ 128) : (s.extract p 128).extract 0 m = s.extract p (p + m) ∧ (s.extract p 128).extract m (128 - p) = s.extract (p + m) 128 := by
  constructor
  · rw [ByteArray.extract_extract, Nat.add_zero, Nat.min_eq_left (by omega)]
  · rw [ByteArray.extract_extract, Nat.min_eq_right (by omega)]
theorem extract_size (s : ByteArray) (p : Nat) (hs : s.size = 128) (h : p ≤ 128) : (s.extract p 128).size = 128 - p := by rw [ByteArray.size_extract, hs]; omega
set_option maxRecDepth 100000 in
set_option maxHeartbeats 4000000 in
theorem take_any (b : Nat) (s : ByteArray) (p m : Nat) (n : Int) (w : World) (hs : s.size = 128) (hp : p + m ≤ 128) (hn : min n (128 - p) = (m : Int)) (h : Left w b (s.extract p 128)) :
    Calls Try.prog 27 #[.int .i64 n, .pointer (some ⟨b, 0, none⟩)] w fun e w' => e = .returned (.string (s.extract p (p + m))) ∧ Left w' b (s.extract (p + m) 128) ∧ Fr (fun k => k = b) w w' := by
  have c0 := h.rest.cell 0
  have f0 := h.rest.frozen 0
  have hz := extract_size s p hs (by omega)
  obtain ⟨e1, e2⟩ := extract_left s p m hp
  have hm1 : mn n ((s.extract p 128).size : Int) = m := by rw [mn_def, hz]; omega
  have hm2 : min n ((s.extract p 128).size : Int) = m := by rw [hz]; omega
  have hle : (m : Int) ≤ ((s.extract p 128).size : Int) := by rw [hz]; omega
  have e2' : (s.extract p 128).extract m (s.extract p 128).size = s.extract (p + m) 128 := by rw [hz]; exact e2
  have hfin : Left (w.setCell ⟨b, 0, none⟩ (.string (s.extract (p + m) 128))) b (s.extract (p + m) 128) := ⟨h.rest.set_ 0 _, h.fn.far (by show b + 1 ≠ b; omega) _⟩
  have hF : Fr (fun k => k = b) w (w.setCell ⟨b, 0, none⟩ (.string (s.extract (p + m) 128))) := Fr.setCell (Fr.refl (fun k => k = b) w) (p := ⟨b, 0, none⟩) (fun _ => rfl) _
  clear h hz e2
  generalize s.extract p 128 = u at *
  go_enter Try.func27, Try.ntmps27
  go_wp2_with fail
  go_ret
  exact ⟨rfl, hfin, hF⟩
set_option maxRecDepth 100000 in
set_option maxHeartbeats 4000000 in
theorem number_any (b : Nat) (s : ByteArray) (p m : Nat) (n : Int) (w : World) (hs : s.size = 128) (hp : p + m ≤ 128) (hn : n = (m : Int)) (hm : m ≤ 8) (h : Left w b (s.extract p 128)) :
    Calls Try.prog 28 #[.int .i64 n, .pointer (some ⟨b + 1, 0, none⟩)] w fun e w' => e = .returned (.int .u64 (fld s p m)) ∧ Left w' b (s.extract (p + m) 128) ∧ Fr (fun k => k = b) w w' := by
  have c0 := h.fn.cell 0
  have hz : (s.extract p (p + m)).size ≤ 8 := by rw [ByteArray.size_extract, hs]; omega
  have htake := fun w => take_any b s p m n w hs hp (by omega)
  clear hn
  go_enter Try.func28, Try.ntmps28
  go_wp2_with (first
    | (go_at_call 27; with_reducible refine (htake _ h).mono ?_; rintro e w1 ⟨rfl, h1, hF1⟩; clear htake h c0)
    | (go_at_call 29; with_reducible refine (Get_any _ hz _).mono ?_; rintro e w2 ⟨rfl, hB⟩))
  go_ret
  have hlt := h1.rest.lt
  have hlt2 := h1.fn.lt
  exact ⟨rfl, ⟨h1.rest.below hB hlt, h1.fn.below hB hlt2⟩, hF1.trans (Fr.of_below (S := fun k => k = b) hB) (fun _ _ h => h)⟩

theorem bytes_inj {a b : ByteArray} (h : a.toList = b.toList) : a = b := by
  rw [ByteArray.toList_eq, ByteArray.toList_eq] at h
  exact ByteArray.ext (Array.ext' h)
theorem bytes_ne {a b : ByteArray} (h : a ≠ b) : (a.toList == b.toList) = false := by
  rw [beq_eq_false_iff_ne]
  exact fun e => h (bytes_inj e)
/-- The record of 128 bytes, as Decode reads it off. -/
def cand (s : ByteArray) : Rec :=
  let i := min (fld s 13 1) 97
  let v := min (fld s 14 1) (97 - i)
  ⟨fld s 0 8, fld s 8 4, fld s 12 1, fld s 15 8, fld s 23 8, s.extract 31 (31 + i), s.extract (31 + i) (31 + i + v)⟩
theorem fld_lt (s : ByteArray) (p m : Nat) : fld s p m < 2 ^ (8 * m) := by
  unfold fld
  refine Nat.lt_of_lt_of_le (leN_lt _) (Nat.pow_le_pow_right (by omega) ?_)
  rw [List.length_take]; omega
theorem cand_fits (s : ByteArray) (hs : s.size = 128) : (cand s).Fits := by
  have h1 := fld_lt s 0 8
  have h2 := fld_lt s 8 4
  have h3 := fld_lt s 12 1
  have h4 := fld_lt s 15 8
  have h5 := fld_lt s 23 8
  refine ⟨?_, ?_, ?_, ?_, ?_, ?_, ?_⟩
  · show 0 ≤ (fld s 0 8 : Int) ∧ (fld s 0 8 : Int) < _; omega
  · show 0 ≤ (fld s 8 4 : Int) ∧ (fld s 8 4 : Int) < _; omega
  · show _ ≤ (fld s 12 1 : Int) ∧ (fld s 12 1 : Int) ≤ _; omega
  · show 0 ≤ (fld s 15 8 : Int) ∧ (fld s 15 8 : Int) < _; omega
  · show 0 ≤ (fld s 23 8 : Int) ∧ (fld s 23 8 : Int) < _; omega
  · show (s.extract 31 _).size ≤ _; rw [ByteArray.size_extract, hs]; omega
  · show (s.extract _ _).size ≤ _; rw [ByteArray.size_extract, hs]; omega
def noRec : Rec := ⟨0, 0, 0, 0, 0, ⟨#[]⟩, ⟨#[]⟩⟩
/-- Decode's answer. -/
def decR (s : ByteArray) : Option Rec := if s.size = 128 ∧ (cand s).right = true ∧ (cand s).sector = s then some (cand s) else none
def decV (s : ByteArray) : Value := match decR s with
  | some r => .tuple #[r.value, .int .i64 0]
  | none => .tuple #[noRec.value, .int .i64 5]
theorem Encode_any (r : Rec) (hr : r.Fits) (w : World) : Calls Try.prog 10 #[r.value] w fun e w' => e = .returned (.tuple #[.string (if r.right = true then r.sector else ⟨#[]⟩), .int .i64 (if r.right = true then 0 else 5)]) ∧ Below w.heap.size w w' := by
  cases h : r.right with
  | true => rw [if_pos rfl, if_pos rfl]; exact Encode_yes r hr h w
  | false => rw [if_neg (by simp), if_neg (by simp)]; exact Encode_no r hr h w
/-- Decode's world, its first p bytes taken. -/
structure DecS (w v : World) (s : ByteArray) (p : Nat) : Prop where
  left : Left v (w.heap.size + 1) (s.extract p 128)
  res : Blk v w.heap.size 25 #[.int .u64 0, .int .u32 0, .int .i64 0, .int .u64 0, .int .u64 0, .string ⟨#[]⟩, .string ⟨#[]⟩]
  below : Below w.heap.size w v
theorem DecS.fr {w v v' : World} {s : ByteArray} {p q : Nat} (h : DecS w v s p) (hL : Left v' (w.heap.size + 1) (s.extract q 128)) (hF : Fr (fun k => k = w.heap.size + 1) v v') : DecS w v' s q :=
  ⟨hL, hF.blk h.res (by omega), h.below.trans (hF.below h.below.size (fun k _ e => by omega))⟩
theorem DecS.far {w v v' : World} {s : ByteArray} {p : Nat} (h : DecS w v s p) (hB : Below v.heap.size v v') : DecS w v' s p :=
  ⟨⟨h.left.rest.below hB h.left.rest.lt, h.left.fn.below hB h.left.fn.lt⟩, h.res.below hB h.res.lt, h.below.trans (hB.mono h.below.size)⟩
theorem DecS.alloc {w v : World} {s : ByteArray} {p : Nat} (h : DecS w v s p) (o : Obj) : DecS w (v.alloc o) s p := h.far ((Below.refl _ _).alloc (Nat.le_refl _) o)
theorem take_len1 (a i : Nat) (h : min a 97 = i) : 31 + i ≤ 128 ∧ min (a : Int) (128 - (31 : Nat)) = (i : Int) := by omega
theorem take_len2 (a i x : Nat) (h : min a (97 - i) = x) (hi : 31 + i ≤ 128) : 31 + i + x ≤ 128 ∧ min (a : Int) (128 - ((31 + i : Nat) : Int)) = (x : Int) := by omega
theorem DecS.set {w v : World} {s : ByteArray} {p rb : Nat} (h : DecS w v s p) (hr : w.heap.size + 1 + 1 < rb) (i : Nat) (u : Value) : DecS w (v.setCell ⟨rb, i, none⟩ u) s p :=
  ⟨⟨h.left.rest.far (by show w.heap.size + 1 ≠ rb; omega) u, h.left.fn.far (by show w.heap.size + 1 + 1 ≠ rb; omega) u⟩, h.res.far (by show w.heap.size ≠ rb; omega) u, h.below.setCell (by show w.heap.size ≤ rb; omega) u⟩
theorem DecS.fncell {w v : World} {s : ByteArray} {p : Nat} (h : DecS w v s p) : v.cell? ⟨w.heap.size + 1 + 1, 0, none⟩ = some (.func (Fn.func 27) #[] #[.pointer (some ⟨w.heap.size + 1, 0, none⟩)]) := h.left.fn.cell 0
theorem numS (s : ByteArray) (hs : s.size = 128) (p m : Nat) (n : Int) (hp : p + m ≤ 128) (hn : n = (m : Int)) (hm : m ≤ 8) {w v : World} (h : DecS w v s p) :
    Calls Try.prog 28 #[.int .i64 n, .pointer (some ⟨w.heap.size + 1 + 1, 0, none⟩)] v fun e v' => e = .returned (.int .u64 (fld s p m)) ∧ DecS w v' s (p + m) ∧ Fr (fun k => k = w.heap.size + 1) v v' :=
  (number_any _ s p m n v hs hp hn hm h.left).mono fun _ _ ⟨he, hL, hF⟩ => ⟨he, h.fr hL hF, hF⟩
theorem takeS (s : ByteArray) (hs : s.size = 128) (p m : Nat) (n : Int) (hp : p + m ≤ 128) (hn : min n (128 - p) = (m : Int)) {w v : World} (h : DecS w v s p) :
    Calls Try.prog 27 #[.int .i64 n, .pointer (some ⟨w.heap.size + 1, 0, none⟩)] v fun e v' => e = .returned (.string (s.extract p (p + m))) ∧ DecS w v' s (p + m) ∧ Fr (fun k => k = w.heap.size + 1) v v' :=
  (take_any _ s p m n v hs hp hn h.left).mono fun _ _ ⟨he, hL, hF⟩ => ⟨he, h.fr hL hF, hF⟩

set_option maxRecDepth 100000 in
set_option maxHeartbeats 4000000 in
theorem Decode_no (s : ByteArray) (hs : s.size ≠ 128) (w : World) : Calls Try.prog 13 #[.string s] w fun e w' => e = .returned (.tuple #[noRec.value, .int .i64 5]) ∧ Below w.heap.size w w' := by
  have hs2 : ((s.size : Int) == 128) = false := by simp; omega
  have hs3 : ((s.size : Int) != 128) = true := by simp; omega
  unfold Rec.value noRec
  go_enter Try.func13, Try.ntmps13
  go_wp2_with fail
  have hb := Blk.new w 25 #[.int .u64 0, .int .u32 0, .int .i64 0, .int .u64 0, .int .u64 0, .string ⟨#[]⟩, .string ⟨#[]⟩]
  have hld := run_loadVar_row (P := Try.prog) _ _ _ 25 _ (0, 0) _ hb Try.underlying25 rfl (by kernel_rfl)
  (try simp only [Exit.inBlock, Exit.then])
  refine bodyPost_ret (v := .tuple #[.agg #[.int .u64 0, .int .u32 0, .int .i64 0, .int .u64 0, .int .u64 0, .string ⟨#[]⟩, .string ⟨#[]⟩], .int .i64 5]) ?_ rfl ⟨rfl, (Below.refl _ _).alloc (Nat.le_refl _) _⟩
  rw [results_cell_tmp rfl]
  simp [asAddr, Result.andThen, hld]
set_option maxRecDepth 100000 in
set_option maxHeartbeats 4000000 in
theorem Decode_128 (s : ByteArray) (hs : s.size = 128) (w : World) : Calls Try.prog 13 #[.string s] w fun e w' => e = .returned (decV s) ∧ Below w.heap.size w w' := by
  have hs2 : (s.size : Int) = 128 := by omega
  have hst : ∀ (w : World) (b : Nat) (x y : Array Value) (f : Fn), w.cell? ⟨b, 0, none⟩ = some .nilFunc → w.frozen? ⟨b, 0, none⟩ = false → (store ⟨b, 0, none⟩ (.func f x y)).run Try.prog w = .ok () (w.setCell ⟨b, 0, none⟩ (.func f x y)) := fun w b x y f hc hf => run_store_fn w _ f x y _ hc hf
  have n1 := Blk.new ((w.alloc (.cells #[.int .u64 0, .int .u32 0, .int .i64 0, .int .u64 0, .int .u64 0, .string ⟨#[]⟩, .string ⟨#[]⟩] 25)).alloc (.cells #[.string s] 9)) 57 #[.nilFunc]
  rw [show ((w.alloc (.cells #[.int .u64 0, .int .u32 0, .int .i64 0, .int .u64 0, .int .u64 0, .string ⟨#[]⟩, .string ⟨#[]⟩] 25)).alloc (.cells #[.string s] 9)).heap.size = w.heap.size + 1 + 1 by simp] at n1
  have hst1 := hst _ (w.heap.size + 1 + 1) #[] #[.pointer (some ⟨w.heap.size + 1, 0, none⟩)] (Fn.func 27) (n1.cell 0) (n1.frozen 0)
  have hS0 : DecS w (((w.alloc (.cells #[.int .u64 0, .int .u32 0, .int .i64 0, .int .u64 0, .int .u64 0, .string ⟨#[]⟩, .string ⟨#[]⟩] 25)).alloc (.cells #[.string s] 9)).alloc (.cells #[.func (Fn.func 27) #[] #[.pointer (some ⟨w.heap.size + 1, 0, none⟩)]] 57)) s 0 := by
    have m1 := Blk.new w 25 #[.int .u64 0, .int .u32 0, .int .i64 0, .int .u64 0, .int .u64 0, .string ⟨#[]⟩, .string ⟨#[]⟩]
    have m2 := Blk.new (w.alloc (.cells #[.int .u64 0, .int .u32 0, .int .i64 0, .int .u64 0, .int .u64 0, .string ⟨#[]⟩, .string ⟨#[]⟩] 25)) 9 #[.string s]
    have m3 := Blk.new ((w.alloc (.cells #[.int .u64 0, .int .u32 0, .int .i64 0, .int .u64 0, .int .u64 0, .string ⟨#[]⟩, .string ⟨#[]⟩] 25)).alloc (.cells #[.string s] 9)) 57 #[.func (Fn.func 27) #[] #[.pointer (some ⟨w.heap.size + 1, 0, none⟩)]]
    have es : s.extract 0 128 = s := by rw [← hs]; exact ByteArray.extract_zero_size
    simp only [World.alloc, Array.size_push] at m2 m3
    refine ⟨⟨?_, m3⟩, (m1.alloc _).alloc _, (((Below.refl _ _).alloc (Nat.le_refl _) _).alloc (by simp) _).alloc (by simp; omega) _⟩
    rw [es]
    exact (show Blk _ (w.heap.size + 1) _ _ from m2).alloc _
  clear hst n1
  have N0 : ∀ v, DecS w v s 0 → Calls Try.prog 28 #[.int .i64 8, .pointer (some ⟨w.heap.size + 1 + 1, 0, none⟩)] v fun e v' => e = .returned (.int .u64 (fld s 0 8)) ∧ DecS w v' s 8 ∧ Fr (fun k => k = w.heap.size + 1) v v' := fun v h => numS s hs 0 8 8 (by decide) (by decide) (by decide) h
  have N1 : ∀ v, DecS w v s 8 → Calls Try.prog 28 #[.int .i64 4, .pointer (some ⟨w.heap.size + 1 + 1, 0, none⟩)] v fun e v' => e = .returned (.int .u64 (fld s 8 4)) ∧ DecS w v' s 12 ∧ Fr (fun k => k = w.heap.size + 1) v v' := fun v h => numS s hs 8 4 4 (by decide) (by decide) (by decide) h
  have N2 : ∀ v, DecS w v s 12 → Calls Try.prog 28 #[.int .i64 1, .pointer (some ⟨w.heap.size + 1 + 1, 0, none⟩)] v fun e v' => e = .returned (.int .u64 (fld s 12 1)) ∧ DecS w v' s 13 ∧ Fr (fun k => k = w.heap.size + 1) v v' := fun v h => numS s hs 12 1 1 (by decide) (by decide) (by decide) h
  have N3 : ∀ v, DecS w v s 13 → Calls Try.prog 28 #[.int .i64 1, .pointer (some ⟨w.heap.size + 1 + 1, 0, none⟩)] v fun e v' => e = .returned (.int .u64 (fld s 13 1)) ∧ DecS w v' s 14 ∧ Fr (fun k => k = w.heap.size + 1) v v' := fun v h => numS s hs 13 1 1 (by decide) (by decide) (by decide) h
  have N4 : ∀ v, DecS w v s 14 → Calls Try.prog 28 #[.int .i64 1, .pointer (some ⟨w.heap.size + 1 + 1, 0, none⟩)] v fun e v' => e = .returned (.int .u64 (fld s 14 1)) ∧ DecS w v' s 15 ∧ Fr (fun k => k = w.heap.size + 1) v v' := fun v h => numS s hs 14 1 1 (by decide) (by decide) (by decide) h
  have N5 : ∀ v, DecS w v s 15 → Calls Try.prog 28 #[.int .i64 8, .pointer (some ⟨w.heap.size + 1 + 1, 0, none⟩)] v fun e v' => e = .returned (.int .u64 (fld s 15 8)) ∧ DecS w v' s 23 ∧ Fr (fun k => k = w.heap.size + 1) v v' := fun v h => numS s hs 15 8 8 (by decide) (by decide) (by decide) h
  have N6 : ∀ v, DecS w v s 23 → Calls Try.prog 28 #[.int .i64 8, .pointer (some ⟨w.heap.size + 1 + 1, 0, none⟩)] v fun e v' => e = .returned (.int .u64 (fld s 23 8)) ∧ DecS w v' s 31 ∧ Fr (fun k => k = w.heap.size + 1) v v' := fun v h => numS s hs 23 8 8 (by decide) (by decide) (by decide) h
  obtain ⟨i, hi⟩ : ∃ i, min (fld s 13 1) 97 = i := ⟨_, rfl⟩
  obtain ⟨x, hx⟩ : ∃ x, min (fld s 14 1) (97 - i) = x := ⟨_, rfl⟩
  have b1 := fld_lt s 8 4
  have b2 := fld_lt s 12 1
  have b3 := fld_lt s 13 1
  have b4 := fld_lt s 14 1
  have w1 : (fld s 8 4 : Int) % 4294967296 = fld s 8 4 := by omega
  have w2 : wrap64 (fld s 12 1 : Int) = fld s 12 1 := by unfold wrap64; omega
  have w3 : wrap64 (fld s 13 1 : Int) = fld s 13 1 := by unfold wrap64; omega
  have w4 : wrap64 (fld s 14 1 : Int) = fld s 14 1 := by unfold wrap64; omega
  have T0 : ∀ v, DecS w v s 31 → Calls Try.prog 27 #[.int .i64 (fld s 13 1), .pointer (some ⟨w.heap.size + 1, 0, none⟩)] v fun e v' => e = .returned (.string (s.extract 31 (31 + i))) ∧ DecS w v' s (31 + i) ∧ Fr (fun k => k = w.heap.size + 1) v v' := fun v h => takeS s hs 31 i _ (take_len1 _ i hi).1 (take_len1 _ i hi).2 h
  have T1 : ∀ v, DecS w v s (31 + i) → Calls Try.prog 27 #[.int .i64 (fld s 14 1), .pointer (some ⟨w.heap.size + 1, 0, none⟩)] v fun e v' => e = .returned (.string (s.extract (31 + i) (31 + i + x))) ∧ DecS w v' s (31 + i + x) ∧ Fr (fun k => k = w.heap.size + 1) v v' := fun v h => takeS s hs (31 + i) x _ (take_len2 _ i x hx (take_len1 _ i hi).1).1 (take_len2 _ i x hx (take_len1 _ i hi).1).2 h
  clear b1 b2 b3 b4
  go_enter Try.func13, Try.ntmps13
  go_wp2_with (first
    | (go_at_call 28; with_reducible refine (N0 _ hS0).mono ?_; rintro e v1 ⟨rfl, hS1, hF1⟩; clear hS0 N0 hF1)
    | (go_at_call 28; with_reducible refine (N1 _ hS1).mono ?_; rintro e v2 ⟨rfl, hS2, hF2⟩; clear hS1 N1 hF2)
    | (go_at_call 28; with_reducible refine (N2 _ hS2).mono ?_; rintro e v3 ⟨rfl, hS3, hF3⟩; clear hS2 N2 hF3)
    | (go_at_call 28; with_reducible refine (N3 _ (hS3.alloc _)).mono ?_; rintro e v4 ⟨rfl, hS4, hF4⟩; have hne := hS3.left.fn.lt; have hR4 := hF4.blk (Blk.new v3 25 _) (by omega); clear hS3 N3 hF4)
    | (go_at_call 28; with_reducible refine (N4 _ hS4).mono ?_; rintro e v5 ⟨rfl, hS5, hF5⟩; have hR5 := hF5.blk hR4 (by omega); clear hS4 N4 hF5 hR4)
    | (go_at_call 28; with_reducible refine (N5 _ hS5).mono ?_; rintro e v6 ⟨rfl, hS6, hF6⟩; have hR6 := hF6.blk hR5 (by omega); clear hS5 N5 hF6 hR5)
    | (go_at_call 28; with_reducible refine (N6 _ hS6).mono ?_; rintro e v7 ⟨rfl, hS7, hF7⟩; have hR7 := hF7.blk hR6 (by omega); have q3 := hR7.cell 3; have q4 := hR7.cell 4; have q3f := hR7.frozen 3; have q4f := hR7.frozen 4; clear hS6 N6 hF7 hR6))
  have hS8 := (hS7.set hne 3 (.int .u64 (fld s 15 8))).set hne 4 (.int .u64 (fld s 23 8))
  have hR8 := (hR7.set_ 3 (.int .u64 (fld s 15 8))).set_ 4 (.int .u64 (fld s 23 8))
  have hlt8 : w.heap.size + 1 + 1 < v3.heap.size := hne
  generalize ((v7.setCell ⟨v3.heap.size, 3, none⟩ (.int .u64 (fld s 15 8))).setCell ⟨v3.heap.size, 4, none⟩ (.int .u64 (fld s 23 8))) = v8 at *
  have c5 : v8.drew.cell? ⟨w.heap.size + 1 + 1, 0, none⟩ = some (.func (Fn.func 27) #[] #[.pointer (some ⟨w.heap.size + 1, 0, none⟩)]) := hS8.left.fn.cell 0
  have hS8d : DecS w v8.drew s 31 := ⟨⟨hS8.left.rest.drew, hS8.left.fn.drew⟩, hS8.res.drew, hS8.below.trans ⟨rfl, rfl, rfl, Nat.le_refl _, fun _ _ => rfl⟩⟩
  have hR8d := hR8.drew
  clear hS8 hR8 hR7 hS7 q3 q4 q3f q4f hst1
  go_region_held3 (fun v => v.cell? ⟨w.heap.size + 1 + 1, 0, none⟩ = some (.func (Fn.func 27) #[] #[.pointer (some ⟨w.heap.size + 1, 0, none⟩)]))
    (first | with_reducible exact c5 | exact hS9.fncell | exact hS10.fncell | exact (hS10.set hlt8 5 _).fncell | exact ((hS10.set hlt8 5 _).set hlt8 6 _).fncell)
    (first
      | (go_at_call 27; with_reducible refine (T0 _ hS8d).mono ?_; rintro e v9 ⟨rfl, hS9, hF9⟩; have hR9 := hF9.blk hR8d (by omega); clear hS8d hR8d T0 hF9)
      | (go_at_call 27; with_reducible refine (T1 _ hS9).mono ?_; rintro e v10 ⟨rfl, hS10, hF10⟩; have hR10 := hF10.blk hR9 (by omega); have d5 := hR10.cell 5; have d6 := hR10.cell 6; have d5f := hR10.frozen 5; have d6f := hR10.frozen 6; clear hS9 hR9 T1 hF10))
  have hR12 := (hR10.set_ 5 (.string (s.extract 31 (31 + i)))).set_ 6 (.string (s.extract (31 + i) (31 + i + x)))
  have hS12 := (hS10.set hlt8 5 (.string (s.extract 31 (31 + i)))).set hlt8 6 (.string (s.extract (31 + i) (31 + i + x)))
  generalize ((v10.setCell ⟨v3.heap.size, 5, none⟩ (.string (s.extract 31 (31 + i)))).setCell ⟨v3.heap.size, 6, none⟩ (.string (s.extract (31 + i) (31 + i + x)))) = v12 at *
  clear hR10 hS10 d5 d6 d5f d6f c5
  have hV : (cand s).value = .agg #[.int .u64 (fld s 0 8), .int .u32 (fld s 8 4), .int .i64 (fld s 12 1), .int .u64 (fld s 15 8), .int .u64 (fld s 23 8), .string (s.extract 31 (31 + i)), .string (s.extract (31 + i) (31 + i + x))] := by
    subst hi; subst hx; rfl
  have hR13 : Blk v12 v3.heap.size 25 #[.int .u64 (fld s 0 8), .int .u32 (fld s 8 4), .int .i64 (fld s 12 1), .int .u64 (fld s 15 8), .int .u64 (fld s 23 8), .string (s.extract 31 (31 + i)), .string (s.extract (31 + i) (31 + i + x))] := hR12
  clear hR12
  obtain ⟨q0, q1, q2, q3, q4, q5, q6⟩ := keep7 hR13 (Below.refl _ _)
  have hE := fun u => Encode_any (cand s) (cand_fits s hs) u
  rw [hV] at hE
  by_cases hr : (cand s).right = true
  · by_cases hsec : (cand s).sector = s
    · have hans : decV s = .tuple #[.agg #[.int .u64 (fld s 0 8), .int .u32 (fld s 8 4), .int .i64 (fld s 12 1), .int .u64 (fld s 15 8), .int .u64 (fld s 23 8), .string (s.extract 31 (31 + i)), .string (s.extract (31 + i) (31 + i + x))], .int .i64 0] := by
        unfold decV decR
        rw [if_pos ⟨hs, hr, hsec⟩, ← hV]
      simp only [hr, if_true, hsec] at hE
      clear hV hi hx w1 w2 w3 w4 hr hsec
      go_wp2_with (first
        | (go_at_call 10; with_reducible refine (hE _).mono ?_; rintro e v13 ⟨rfl, hB13⟩; have hR14 := hR13.below hB13 hR13.lt; have hS13 := hS12.far hB13; clear q0 q1 q2 q3 q4 q5 q6; obtain ⟨q0, q1, q2, q3, q4, q5, q6⟩ := keep7 hR14 (Below.refl _ _); obtain ⟨p0, p1, p2, p3, p4, p5, p6⟩ := keep7 hS13.res (Below.refl _ _); have pf := fun k => hS13.res.frozen k; clear hR13 hS12 hE hB13))
      have hbb := ((((((hS13.res.set_ 0 (.int .u64 (fld s 0 8))).set_ 1 (.int .u32 (fld s 8 4))).set_ 2 (.int .i64 (fld s 12 1))).set_ 3 (.int .u64 (fld s 15 8))).set_ 4 (.int .u64 (fld s 23 8))).set_ 5 (.string (s.extract 31 (31 + i)))).set_ 6 (.string (s.extract (31 + i) (31 + i + x)))
      have hBf := ((((((hS13.below.setCell (p := ⟨w.heap.size, 0, none⟩) (Nat.le_refl _) (.int .u64 (fld s 0 8))).setCell (p := ⟨w.heap.size, 1, none⟩) (Nat.le_refl _) (.int .u32 (fld s 8 4))).setCell (p := ⟨w.heap.size, 2, none⟩) (Nat.le_refl _) (.int .i64 (fld s 12 1))).setCell (p := ⟨w.heap.size, 3, none⟩) (Nat.le_refl _) (.int .u64 (fld s 15 8))).setCell (p := ⟨w.heap.size, 4, none⟩) (Nat.le_refl _) (.int .u64 (fld s 23 8))).setCell (p := ⟨w.heap.size, 5, none⟩) (Nat.le_refl _) (.string (s.extract 31 (31 + i)))).setCell (p := ⟨w.heap.size, 6, none⟩) (Nat.le_refl _) (.string (s.extract (31 + i) (31 + i + x)))
      have hld := run_loadVar_row (P := Try.prog) _ _ _ 25 _ (0, 0) _ hbb Try.underlying25 rfl (by kernel_rfl)
      refine bodyPost_ret (v := decV s) ?_ rfl ⟨rfl, hBf⟩
      rw [results_cell_tmp rfl, hans]
      simp [asAddr, Result.andThen, hld]
    · have hans : decV s = .tuple #[.agg #[.int .u64 0, .int .u32 0, .int .i64 0, .int .u64 0, .int .u64 0, .string ⟨#[]⟩, .string ⟨#[]⟩], .int .i64 5] := by
        unfold decV decR
        rw [if_neg (by rintro ⟨_, h1, h2⟩; first | exact hsec h2 | exact hr h1)]
        rfl
      have hs3 : ((cand s).sector.toList == s.toList) = false := bytes_ne hsec
      have hs4 : (!((cand s).sector.toList == s.toList)) = true := by rw [hs3]; rfl
      simp only [hr, if_true] at hE
      clear hV hi hx w1 w2 w3 w4 hr hsec
      go_wp2_with (first
        | (go_at_call 10; with_reducible refine (hE _).mono ?_; rintro e v13 ⟨rfl, hB13⟩; have hR14 := hR13.below hB13 hR13.lt; have hS13 := hS12.far hB13; clear q0 q1 q2 q3 q4 q5 q6; obtain ⟨q0, q1, q2, q3, q4, q5, q6⟩ := keep7 hR14 (Below.refl _ _); obtain ⟨p0, p1, p2, p3, p4, p5, p6⟩ := keep7 hS13.res (Below.refl _ _); have pf := fun k => hS13.res.frozen k; clear hR13 hS12 hE hB13))
      have hbb := ((((((hS13.res.set_ 0 (.int .u64 0)).set_ 1 (.int .u32 0)).set_ 2 (.int .i64 0)).set_ 3 (.int .u64 0)).set_ 4 (.int .u64 0)).set_ 5 (.string ⟨#[]⟩)).set_ 6 (.string ⟨#[]⟩)
      have hBf := ((((((hS13.below.setCell (p := ⟨w.heap.size, 0, none⟩) (Nat.le_refl _) (.int .u64 0)).setCell (p := ⟨w.heap.size, 1, none⟩) (Nat.le_refl _) (.int .u32 0)).setCell (p := ⟨w.heap.size, 2, none⟩) (Nat.le_refl _) (.int .i64 0)).setCell (p := ⟨w.heap.size, 3, none⟩) (Nat.le_refl _) (.int .u64 0)).setCell (p := ⟨w.heap.size, 4, none⟩) (Nat.le_refl _) (.int .u64 0)).setCell (p := ⟨w.heap.size, 5, none⟩) (Nat.le_refl _) (.string ⟨#[]⟩)).setCell (p := ⟨w.heap.size, 6, none⟩) (Nat.le_refl _) (.string ⟨#[]⟩)
      have hld := run_loadVar_row (P := Try.prog) _ _ _ 25 _ (0, 0) _ hbb Try.underlying25 rfl (by kernel_rfl)
      refine bodyPost_ret (v := decV s) ?_ rfl ⟨rfl, hBf⟩
      rw [results_cell_tmp rfl, hans]
      simp [asAddr, Result.andThen, hld]
  · have hans : decV s = .tuple #[.agg #[.int .u64 0, .int .u32 0, .int .i64 0, .int .u64 0, .int .u64 0, .string ⟨#[]⟩, .string ⟨#[]⟩], .int .i64 5] := by
      unfold decV decR
      rw [if_neg (by rintro ⟨_, h1, h2⟩; first | exact hsec h2 | exact hr h1)]
      rfl
    simp only [hr, if_false] at hE
    clear hV hi hx w1 w2 w3 w4 hr
    go_wp2_with (first
      | (go_at_call 10; with_reducible refine (hE _).mono ?_; rintro e v13 ⟨rfl, hB13⟩; have hR14 := hR13.below hB13 hR13.lt; have hS13 := hS12.far hB13; clear q0 q1 q2 q3 q4 q5 q6; obtain ⟨q0, q1, q2, q3, q4, q5, q6⟩ := keep7 hR14 (Below.refl _ _); obtain ⟨p0, p1, p2, p3, p4, p5, p6⟩ := keep7 hS13.res (Below.refl _ _); have pf := fun k => hS13.res.frozen k; clear hR13 hS12 hE hB13))
    have hbb := ((((((hS13.res.set_ 0 (.int .u64 0)).set_ 1 (.int .u32 0)).set_ 2 (.int .i64 0)).set_ 3 (.int .u64 0)).set_ 4 (.int .u64 0)).set_ 5 (.string ⟨#[]⟩)).set_ 6 (.string ⟨#[]⟩)
    have hBf := ((((((hS13.below.setCell (p := ⟨w.heap.size, 0, none⟩) (Nat.le_refl _) (.int .u64 0)).setCell (p := ⟨w.heap.size, 1, none⟩) (Nat.le_refl _) (.int .u32 0)).setCell (p := ⟨w.heap.size, 2, none⟩) (Nat.le_refl _) (.int .i64 0)).setCell (p := ⟨w.heap.size, 3, none⟩) (Nat.le_refl _) (.int .u64 0)).setCell (p := ⟨w.heap.size, 4, none⟩) (Nat.le_refl _) (.int .u64 0)).setCell (p := ⟨w.heap.size, 5, none⟩) (Nat.le_refl _) (.string ⟨#[]⟩)).setCell (p := ⟨w.heap.size, 6, none⟩) (Nat.le_refl _) (.string ⟨#[]⟩)
    have hld := run_loadVar_row (P := Try.prog) _ _ _ 25 _ (0, 0) _ hbb Try.underlying25 rfl (by kernel_rfl)
    refine bodyPost_ret (v := decV s) ?_ rfl ⟨rfl, hBf⟩
    rw [results_cell_tmp rfl, hans]
    simp [asAddr, Result.andThen, hld]
end Go.Proofs.Ytoofmklghllliaa
