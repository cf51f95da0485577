/- What the laws of this seat lean on, part 6. -/
import Derived.Test.YthlbciinpidedaaGreatZK5
import Derived.Laws.ResultCell
/- record.Decode and record.Next. -/
namespace Go.Proofs.YthlbciinpidedaaGreat
set_option linter.unusedSimpArgs false
set_option linter.unusedVariables false
set_option maxRecDepth 100000
open Go.RowKit
attribute [local go_sem high] run_mx run_mn

theorem run_store_fn (w : World) (a : Addr) (f : Fn) (x y : Array Value) (u : Value) (hc : w.cell? a = some u) (hf : w.frozen? a = false) : (store a (.func f x y)).run Tryz.prog w = .ok () (w.setCell a (.func f x y)) := by
  rw [run_store _ _ _ _ _ rfl]
  simp [hc, hf]
/-- Decode's two captured variables: the bytes that are left, and how they are taken. -/
structure Left (w : World) (b : Nat) (s : ByteArray) : Prop where
  rest : Blk w b 9 #[.string s]
  fn : Blk w (b + 1) 157 #[.func (Fn.func 91) #[] #[.pointer (some ⟨b, 0, none⟩)]]
/-- The number in a field. -/
def fld (s : ByteArray) (p m : Nat) : Nat := leN ((s.data.toList.drop p).take m)
theorem extract_left (s : ByteArray) (p m : Nat) (h : p + m ≤ 128) : (s.extract p 128).extract 0 m = s.extract p (p + m) ∧ (s.extract p 128).extract m (128 - p) = s.extract (p + m) 128 := by
  constructor
  · rw [ByteArray.extract_extract, Nat.add_zero, Nat.min_eq_left (by omega)]
  · rw [ByteArray.extract_extract, Nat.min_eq_right (by omega)]
theorem extract_size (s : ByteArray) (p : Nat) (hs : s.size = 128) (h : p ≤ 128) : (s.extract p 128).size = 128 - p := by rw [ByteArray.size_extract, hs]; omega
set_option maxRecDepth 100000 in
set_option maxHeartbeats 4000000 in
theorem take_any (b : Nat) (s : ByteArray) (p m : Nat) (n : Int) (w : World) (hs : s.size = 128) (hp : p + m ≤ 128) (hn : min n (128 - p) = (m : Int)) (h : Left w b (s.extract p 128)) :
    Calls Tryz.prog 91 #[.int .i64 n, .pointer (some ⟨b, 0, none⟩)] w fun e w' => e = .returned (.string (s.extract p (p + m))) ∧ Left w' b (s.extract (p + m) 128) ∧ Fr (fun k => k = b) w w' := by
  have c0 := h.rest.cell 0
  have f0 := h.rest.frozen 0
  have hz := extract_size s p hs (by omega)
  obtain ⟨e1, e2⟩ := extract_left s p m hp
  have hm1 : mn n ((s.extract p 128).size : Int) = m := by rw [mn_def, hz]; omega
  have hm2 : min n ((s.extract p 128).size : Int) = m := by rw [hz]; omega
  have hle : (m : Int) ≤ ((s.extract p 128).size : Int) := by rw [hz]; omega
  have e2' : (s.extract p 128).extract m (s.extract p 128).size = s.extract (p + m) 128 := by rw [hz]; exact e2
  have hfin : Left (w.setCell ⟨b, 0, none⟩ (.string (s.extract (p + m) 128))) b (s.extract (p + m) 128) := ⟨h.rest.set_ 0 _, h.fn.far (by show b + 1 ≠ b; omega) _⟩
  have hF : Fr (fun k => k = b) w (w.setCell ⟨b, 0, none⟩ (.string (s.extract (p + m) 128))) := Fr.setCell (Fr.refl (fun k => k = b) w) (p := ⟨b, 0, none⟩) (fun _ => rfl) _
  clear h hz e2
  generalize s.extract p 128 = u at *
  go_enter Tryz.func91, Tryz.ntmps91
  go_wp2_with fail
  go_ret
  exact ⟨rfl, hfin, hF⟩
set_option maxRecDepth 100000 in
set_option maxHeartbeats 4000000 in
theorem number_any (b : Nat) (s : ByteArray) (p m : Nat) (n : Int) (w : World) (hs : s.size = 128) (hp : p + m ≤ 128) (hn : n = (m : Int)) (hm : m ≤ 8) (h : Left w b (s.extract p 128)) :
    Calls Tryz.prog 92 #[.int .i64 n, .pointer (some ⟨b + 1, 0, none⟩)] w fun e w' => e = .returned (.int .u64 (fld s p m)) ∧ Left w' b (s.extract (p + m) 128) ∧ Fr (fun k => k = b) w w' := by
  have c0 := h.fn.cell 0
  have hz : (s.extract p (p + m)).size ≤ 8 := by rw [ByteArray.size_extract, hs]; omega
  have htake := fun w => take_any b s p m n w hs hp (by omega)
  clear hn
  go_enter Tryz.func92, Tryz.ntmps92
  go_wp2_with (first
    | (go_at_call 91; with_reducible refine (htake _ h).mono ?_; rintro e w1 ⟨rfl, h1, hF1⟩; clear htake h c0)
    | (go_at_call 93; with_reducible refine (Get_any _ hz _).mono ?_; rintro e w2 ⟨rfl, hB⟩))
  go_ret
  have hlt := h1.rest.lt
  have hlt2 := h1.fn.lt
  exact ⟨rfl, ⟨h1.rest.below hB hlt, h1.fn.below hB hlt2⟩, hF1.trans (Fr.of_below (S := fun k => k = b) hB) (fun _ _ h => h)⟩

theorem bytes_inj {a b : ByteArray} (h : a.toList = b.toList) : a = b := by
  rw [ByteArray.toList_eq, ByteArray.toList_eq] at h
  exact ByteArray.ext (Array.ext' h)
theorem bytes_ne {a b : ByteArray} (h : a ≠ b) : (a.toList == b.toList) = false := by
  rw [beq_eq_false_iff_ne]
  exact fun e => h (bytes_inj e)
/-- The record of 128 bytes, as Decode reads it off. -/
def cand (s : ByteArray) : Rec :=
  let i := min (fld s 13 1) 97
  let v := min (fld s 14 1) (97 - i)
  ⟨fld s 0 8, fld s 8 4, fld s 12 1, fld s 15 8, fld s 23 8, s.extract 31 (31 + i), s.extract (31 + i) (31 + i + v)⟩
theorem fld_lt (s : ByteArray) (p m : Nat) : fld s p m < 2 ^ (8 * m) := by
  unfold fld
  refine Nat.lt_of_lt_of_le (leN_lt _) (Nat.pow_le_pow_right (by omega) ?_)
  rw [List.length_take]; omega
theorem cand_fits (s : ByteArray) (hs : s.size = 128) : (cand s).Fits := by
  have h1 := fld_lt s 0 8
  have h2 := fld_lt s 8 4
  have h3 := fld_lt s 12 1
  have h4 := fld_lt s 15 8
  have h5 := fld_lt s 23 8
  refine ⟨?_, ?_, ?_, ?_, ?_, ?_, ?_⟩
  · show 0 ≤ (fld s 0 8 : Int) ∧ (fld s 0 8 : Int) < _; omega
  · show 0 ≤ (fld s 8 4 : Int) ∧ (fld s 8 4 : Int) < _; omega
  · show _ ≤ (fld s 12 1 : Int) ∧ (fld s 12 1 : Int) ≤ _; omega
  · show 0 ≤ (fld s 15 8 : Int) ∧ (fld s 15 8 : Int) < _; omega
  · show 0 ≤ (fld s 23 8 : Int) ∧ (fld s 23 8 : Int) < _; omega
  · show (s.extract 31 _).size ≤ _; rw [ByteArray.size_extract, hs]; omega
  · show (s.extract _ _).size ≤ _; rw [ByteArray.size_extract, hs]; omega
def noRec : Rec := ⟨0, 0, 0, 0, 0, ⟨#[]⟩, ⟨#[]⟩⟩
/-- Decode's answer. -/
def decR (s : ByteArray) : Option Rec := if s.size = 128 ∧ (cand s).right = true ∧ (cand s).sector = s then some (cand s) else none
def decV (s : ByteArray) : Value := match decR s with
  | some r => .tuple #[r.value, .int .i64 0]
  | none => .tuple #[noRec.value, .int .i64 5]
theorem Encode_any (r : Rec) (hr : r.Fits) (w : World) : Calls Tryz.prog 94 #[r.value] w fun e w' => e = .returned (.tuple #[.string (if r.right = true then r.sector else ⟨#[]⟩), .int .i64 (if r.right = true then 0 else 5)]) ∧ Below w.heap.size w w' := by
  cases h : r.right with
  | true => rw [if_pos rfl, if_pos rfl]; exact Encode_yes r hr h w
  | false => rw [if_neg (by simp), if_neg (by simp)]; exact Encode_no r hr h w
/-- Decode's world, its first p bytes taken. -/
structure DecS (w v : World) (s : ByteArray) (p : Nat) : Prop where
  left : Left v (w.heap.size + 1) (s.extract p 128)
  res : Blk v w.heap.size 42 #[.int .u64 0, .int .u32 0, .int .i64 0, .int .u64 0, .int .u64 0, .string ⟨#[]⟩, .string ⟨#[]⟩]
  below : Below w.heap.size w v
theorem DecS.fr {w v v' : World} {s : ByteArray} {p q : Nat} (h : DecS w v s p) (hL : Left v' (w.heap.size + 1) (s.extract q 128)) (hF : Fr (fun k => k = w.heap.size + 1) v v') : DecS w v' s q :=
  ⟨hL, hF.blk h.res (by omega), h.below.trans (hF.below h.below.size (fun k _ e => by omega))⟩
theorem DecS.far {w v v' : World} {s : ByteArray} {p : Nat} (h : DecS w v s p) (hB : Below v.heap.size v v') : DecS w v' s p :=
  ⟨⟨h.left.rest.below hB h.left.rest.lt, h.left.fn.below hB h.left.fn.lt⟩, h.res.below hB h.res.lt, h.below.trans (hB.mono h.below.size)⟩
theorem DecS.alloc {w v : World} {s : ByteArray} {p : Nat} (h : DecS w v s p) (o : Obj) : DecS w (v.alloc o) s p := h.far ((Below.refl _ _).alloc (Nat.le_refl _) o)
theorem take_len1 (a i : Nat) (h : min a 97 = i) : 31 + i ≤ 128 ∧ min (a : Int) (128 - (31 : Nat)) = (i : Int) := by omega
theorem take_len2 (a i x : Nat) (h : min a (97 - i) = x) (hi : 31 + i ≤ 128) : 31 + i + x ≤ 128 ∧ min (a : Int) (128 - ((31 + i : Nat) : Int)) = (x : Int) := by omega
theorem DecS.set {w v : World} {s : ByteArray} {p rb : Nat} (h : DecS w v s p) (hr : w.heap.size + 1 + 1 < rb) (i : Nat) (u : Value) : DecS w (v.setCell ⟨rb, i, none⟩ u) s p :=
  ⟨⟨h.left.rest.far (by show w.heap.size + 1 ≠ rb; omega) u, h.left.fn.far (by show w.heap.size + 1 + 1 ≠ rb; omega) u⟩, h.res.far (by show w.heap.size ≠ rb; omega) u, h.below.setCell (by show w.heap.size ≤ rb; omega) u⟩
theorem DecS.fncell {w v : World} {s : ByteArray} {p : Nat} (h : DecS w v s p) : v.cell? ⟨w.heap.size + 1 + 1, 0, none⟩ = some (.func (Fn.func 91) #[] #[.pointer (some ⟨w.heap.size + 1, 0, none⟩)]) := h.left.fn.cell 0
theorem numS (s : ByteArray) (hs : s.size = 128) (p m : Nat) (n : Int) (hp : p + m ≤ 128) (hn : n = (m : Int)) (hm : m ≤ 8) {w v : World} (h : DecS w v s p) :
    Calls Tryz.prog 92 #[.int .i64 n, .pointer (some ⟨w.heap.size + 1 + 1, 0, none⟩)] v fun e v' => e = .returned (.int .u64 (fld s p m)) ∧ DecS w v' s (p + m) ∧ Fr (fun k => k = w.heap.size + 1) v v' :=
  (number_any _ s p m n v hs hp hn hm h.left).mono fun _ _ ⟨he, hL, hF⟩ => ⟨he, h.fr hL hF, hF⟩
theorem takeS (s : ByteArray) (hs : s.size = 128) (p m : Nat) (n : Int) (hp : p + m ≤ 128) (hn : min n (128 - p) = (m : Int)) {w v : World} (h : DecS w v s p) :
    Calls Tryz.prog 91 #[.int .i64 n, .pointer (some ⟨w.heap.size + 1, 0, none⟩)] v fun e v' => e = .returned (.string (s.extract p (p + m))) ∧ DecS w v' s (p + m) ∧ Fr (fun k => k = w.heap.size + 1) v v' :=
  (take_any _ s p m n v hs hp hn h.left).mono fun _ _ ⟨he, hL, hF⟩ => ⟨he, h.fr hL hF, hF⟩

set_option maxRecDepth 100000 in
set_option maxHeartbeats 4000000 in
theorem Decode_no (s : ByteArray) (hs : s.size ≠ 128) (w : World) : Calls Tryz.prog 51 #[.string s] w fun e w' => e = .returned (.tuple #[noRec.value, .int .i64 5]) ∧ Below w.heap.size w w' := by
  have hs2 : ((s.size : Int) == 128) = false := by simp; omega
  have hs3 : ((s.size : Int) != 128) = true := by simp; omega
  unfold Rec.value noRec
  go_enter Tryz.func51, Tryz.ntmps51
  go_wp2_with fail
  have hb := Blk.new w 42 #[.int .u64 0, .int .u32 0, .int .i64 0, .int .u64 0, .int .u64 0, .string ⟨#[]⟩, .string ⟨#[]⟩]
  have hld := run_loadVar_row (P := Tryz.prog) _ _ _ 42 _ (0, 0) _ hb Tryz.underlying42 rfl (by kernel_rfl)
  (try simp only [Exit.inBlock, Exit.then])
  refine bodyPost_ret (v := .tuple #[.agg #[.int .u64 0, .int .u32 0, .int .i64 0, .int .u64 0, .int .u64 0, .string ⟨#[]⟩, .string ⟨#[]⟩], .int .i64 5]) ?_ rfl ⟨rfl, (Below.refl _ _).alloc (Nat.le_refl _) _⟩
  rw [results_cell_tmp rfl]
  simp [asAddr, Result.andThen, hld]
set_option maxRecDepth 100000 in
set_option maxHeartbeats 4000000 in
theorem Decode_128 (s : ByteArray) (hs : s.size = 128) (w : World) : Calls Tryz.prog 51 #[.string s] w fun e w' => e = .returned (decV s) ∧ Below w.heap.size w w' := by
  have hs2 : (s.size : Int) = 128 := by omega
  have hst : ∀ (w : World) (b : Nat) (x y : Array Value) (f : Fn), w.cell? ⟨b, 0, none⟩ = some .nilFunc → w.frozen? ⟨b, 0, none⟩ = false → (store ⟨b, 0, none⟩ (.func f x y)).run Tryz.prog w = .ok () (w.setCell ⟨b, 0, none⟩ (.func f x y)) := fun w b x y f hc hf => run_store_fn w _ f x y _ hc hf
  have n1 := Blk.new ((w.alloc (.cells #[.int .u64 0, .int .u32 0, .int .i64 0, .int .u64 0, .int .u64 0, .string ⟨#[]⟩, .string ⟨#[]⟩] 42)).alloc (.cells #[.string s] 9)) 157 #[.nilFunc]
  rw [show ((w.alloc (.cells #[.int .u64 0, .int .u32 0, .int .i64 0, .int .u64 0, .int .u64 0, .string ⟨#[]⟩, .string ⟨#[]⟩] 42)).alloc (.cells #[.string s] 9)).heap.size = w.heap.size + 1 + 1 by simp] at n1
  have hst1 := hst _ (w.heap.size + 1 + 1) #[] #[.pointer (some ⟨w.heap.size + 1, 0, none⟩)] (Fn.func 91) (n1.cell 0) (n1.frozen 0)
  have hS0 : DecS w (((w.alloc (.cells #[.int .u64 0, .int .u32 0, .int .i64 0, .int .u64 0, .int .u64 0, .string ⟨#[]⟩, .string ⟨#[]⟩] 42)).alloc (.cells #[.string s] 9)).alloc (.cells #[.func (Fn.func 91) #[] #[.pointer (some ⟨w.heap.size + 1, 0, none⟩)]] 157)) s 0 := by
    have m1 := Blk.new w 42 #[.int .u64 0, .int .u32 0, .int .i64 0, .int .u64 0, .int .u64 0, .string ⟨#[]⟩, .string ⟨#[]⟩]
    have m2 := Blk.new (w.alloc (.cells #[.int .u64 0, .int .u32 0, .int .i64 0, .int .u64 0, .int .u64 0, .string ⟨#[]⟩, .string ⟨#[]⟩] 42)) 9 #[.string s]
    have m3 := Blk.new ((w.alloc (.cells #[.int .u64 0, .int .u32 0, .int .i64 0, .int .u64 0, .int .u64 0, .string ⟨#[]⟩, .string ⟨#[]⟩] 42)).alloc (.cells #[.string s] 9)) 157 #[.func (Fn.func 91) #[] #[.pointer (some ⟨w.heap.size + 1, 0, none⟩)]]
    have es : s.extract 0 128 = s := by rw [← hs]; exact ByteArray.extract_zero_size
    simp only [World.alloc, Array.size_push] at m2 m3
    refine ⟨⟨?_, m3⟩, (m1.alloc _).alloc _, (((Below.refl _ _).alloc (Nat.le_refl _) _).alloc (by simp) _).alloc (by simp; omega) _⟩
    rw [es]
    exact (show Blk _ (w.heap.size + 1) _ _ from m2).alloc _
  clear hst n1
  have N0 : ∀ v, DecS w v s 0 → Calls Tryz.prog 92 #[.int .i64 8, .pointer (some ⟨w.heap.size + 1 + 1, 0, none⟩)] v fun e v' => e = .returned (.int .u64 (fld s 0 8)) ∧ DecS w v' s 8 ∧ Fr (fun k => k = w.heap.size + 1) v v' := fun v h => numS s hs 0 8 8 (by decide) (by decide) (by decide) h
  have N1 : ∀ v, DecS w v s 8 → Calls Tryz.prog 92 #[.int .i64 4, .pointer (some ⟨w.heap.size + 1 + 1, 0, none⟩)] v fun e v' => e = .returned (.int .u64 (fld s 8 4)) ∧ DecS w v' s 12 ∧ Fr (fun k => k = w.heap.size + 1) v v' := fun v h => numS s hs 8 4 4 (by decide) (by decide) (by decide) h
  have N2 : ∀ v, DecS w v s 12 → Calls Tryz.prog 92 #[.int .i64 1, .pointer (some ⟨w.heap.size + 1 + 1, 0, none⟩)] v fun e v' => e = .returned (.int .u64 (fld s 12 1)) ∧ DecS w v' s 13 ∧ Fr (fun k => k = w.heap.size + 1) v v' := fun v h => numS s hs 12 1 1 (by decide) (by decide) (by decide) h
  have N3 : ∀ v, DecS w v s 13 → Calls Tryz.prog 92 #[.int .i64 1, .pointer (some ⟨w.heap.size + 1 + 1, 0, none⟩)] v fun e v' => e = .returned (.int .u64 (fld s 13 1)) ∧ DecS w v' s 14 ∧ Fr (fun k => k = w.heap.size + 1) v v' := fun v h => numS s hs 13 1 1 (by decide) (by decide) (by decide) h
  have N4 : ∀ v, DecS w v s 14 → Calls Tryz.prog 92 #[.int .i64 1, .pointer (some ⟨w.heap.size + 1 + 1, 0, none⟩)] v fun e v' => e = .returned (.int .u64 (fld s 14 1)) ∧ DecS w v' s 15 ∧ Fr (fun k => k = w.heap.size + 1) v v' := fun v h => numS s hs 14 1 1 (by decide) (by decide) (by decide) h
  have N5 : ∀ v, DecS w v s 15 → Calls Tryz.prog 92 #[.int .i64 8, .pointer (some ⟨w.heap.size + 1 + 1, 0, none⟩)] v fun e v' => e = .returned (.int .u64 (fld s 15 8)) ∧ DecS w v' s 23 ∧ Fr (fun k => k = w.heap.size + 1) v v' := fun v h => numS s hs 15 8 8 (by decide) (by decide) (by decide) h
  have N6 : ∀ v, DecS w v s 23 → Calls Tryz.prog 92 #[.int .i64 8, .pointer (some ⟨w.heap.size + 1 + 1, 0, none⟩)] v fun e v' => e = .returned (.int .u64 (fld s 23 8)) ∧ DecS w v' s 31 ∧ Fr (fun k => k = w.heap.size + 1) v v' := fun v h => numS s hs 23 8 8 (by decide) (by decide) (by decide) h
  obtain ⟨i, hi⟩ : ∃ i, min (fld s 13 1) 97 = i := ⟨_, rfl⟩
  obtain ⟨x, hx⟩ : ∃ x, min (fld s 14 1) (97 - i) = x := ⟨_, rfl⟩
  have b1 := fld_lt s 8 4
  have b2 := fld_lt s 12 1
  have b3 := fld_lt s 13 1
  have b4 := fld_lt s 14 1
  have w1 : (fld s 8 4 : Int) % 4294967296 = fld s 8 4 := by omega
  have w2 : wrap64 (fld s 12 1 : Int) = fld s 12 1 := by unfold wrap64; omega
  have w3 : wrap64 (fld s 13 1 : Int) = fld s 13 1 := by unfold wrap64; omega
  have w4 : wrap64 (fld s 14 1 : Int) = fld s 14 1 := by unfold wrap64; omega
  have T0 : ∀ v, DecS w v s 31 → Calls Tryz.prog 91 #[.int .i64 (fld s 13 1), .pointer (some ⟨w.heap.size + 1, 0, none⟩)] v fun e v' => e = .returned (.string (s.extract 31 (31 + i))) ∧ DecS w v' s (31 + i) ∧ Fr (fun k => k = w.heap.size + 1) v v' := fun v h => takeS s hs 31 i _ (take_len1 _ i hi).1 (take_len1 _ i hi).2 h
  have T1 : ∀ v, DecS w v s (31 + i) → Calls Tryz.prog 91 #[.int .i64 (fld s 14 1), .pointer (some ⟨w.heap.size + 1, 0, none⟩)] v fun e v' => e = .returned (.string (s.extract (31 + i) (31 + i + x))) ∧ DecS w v' s (31 + i + x) ∧ Fr (fun k => k = w.heap.size + 1) v v' := fun v h => takeS s hs (31 + i) x _ (take_len2 _ i x hx (take_len1 _ i hi).1).1 (take_len2 _ i x hx (take_len1 _ i hi).1).2 h
  clear b1 b2 b3 b4
  go_enter Tryz.func51, Tryz.ntmps51
  go_wp2_with (first
    | (go_at_call 92; with_reducible refine (N0 _ hS0).mono ?_; rintro e v1 ⟨rfl, hS1, hF1⟩; clear hS0 N0 hF1)
    | (go_at_call 92; with_reducible refine (N1 _ hS1).mono ?_; rintro e v2 ⟨rfl, hS2, hF2⟩; clear hS1 N1 hF2)
    | (go_at_call 92; with_reducible refine (N2 _ hS2).mono ?_; rintro e v3 ⟨rfl, hS3, hF3⟩; clear hS2 N2 hF3)
    | (go_at_call 92; with_reducible refine (N3 _ (hS3.alloc _)).mono ?_; rintro e v4 ⟨rfl, hS4, hF4⟩; have hne := hS3.left.fn.lt; have hR4 := hF4.blk (Blk.new v3 42 _) (by omega); clear hS3 N3 hF4)
    | (go_at_call 92; with_reducible refine (N4 _ hS4).mono ?_; rintro e v5 ⟨rfl, hS5, hF5⟩; have hR5 := hF5.blk hR4 (by omega); clear hS4 N4 hF5 hR4)
    | (go_at_call 92; with_reducible refine (N5 _ hS5).mono ?_; rintro e v6 ⟨rfl, hS6, hF6⟩; have hR6 := hF6.blk hR5 (by omega); clear hS5 N5 hF6 hR5)
    | (go_at_call 92; with_reducible refine (N6 _ hS6).mono ?_; rintro e v7 ⟨rfl, hS7, hF7⟩; have hR7 := hF7.blk hR6 (by omega); have q3 := hR7.cell 3; have q4 := hR7.cell 4; have q3f := hR7.frozen 3; have q4f := hR7.frozen 4; clear hS6 N6 hF7 hR6))
  have hS8 := (hS7.set hne 3 (.int .u64 (fld s 15 8))).set hne 4 (.int .u64 (fld s 23 8))
  have hR8 := (hR7.set_ 3 (.int .u64 (fld s 15 8))).set_ 4 (.int .u64 (fld s 23 8))
  have hlt8 : w.heap.size + 1 + 1 < v3.heap.size := hne
  generalize ((v7.setCell ⟨v3.heap.size, 3, none⟩ (.int .u64 (fld s 15 8))).setCell ⟨v3.heap.size, 4, none⟩ (.int .u64 (fld s 23 8))) = v8 at *
  have c5 : v8.drew.cell? ⟨w.heap.size + 1 + 1, 0, none⟩ = some (.func (Fn.func 91) #[] #[.pointer (some ⟨w.heap.size + 1, 0, none⟩)]) := hS8.left.fn.cell 0
  have hS8d : DecS w v8.drew s 31 := ⟨⟨hS8.left.rest.drew, hS8.left.fn.drew⟩, hS8.res.drew, hS8.below.trans ⟨rfl, rfl, rfl, Nat.le_refl _, fun _ _ => rfl⟩⟩
  have hR8d := hR8.drew
  clear hS8 hR8 hR7 hS7 q3 q4 q3f q4f hst1
  go_region_held3 (fun v => v.cell? ⟨w.heap.size + 1 + 1, 0, none⟩ = some (.func (Fn.func 91) #[] #[.pointer (some ⟨w.heap.size + 1, 0, none⟩)]))
    (first | with_reducible exact c5 | exact hS9.fncell | exact hS10.fncell | exact (hS10.set hlt8 5 _).fncell | exact ((hS10.set hlt8 5 _).set hlt8 6 _).fncell)
    (first
      | (go_at_call 91; with_reducible refine (T0 _ hS8d).mono ?_; rintro e v9 ⟨rfl, hS9, hF9⟩; have hR9 := hF9.blk hR8d (by omega); clear hS8d hR8d T0 hF9)
      | (go_at_call 91; with_reducible refine (T1 _ hS9).mono ?_; rintro e v10 ⟨rfl, hS10, hF10⟩; have hR10 := hF10.blk hR9 (by omega); have d5 := hR10.cell 5; have d6 := hR10.cell 6; have d5f := hR10.frozen 5; have d6f := hR10.frozen 6; clear hS9 hR9 T1 hF10))
  have hR12 := (hR10.set_ 5 (.string (s.extract 31 (31 + i)))).set_ 6 (.string (s.extract (31 + i) (31 + i + x)))
  have hS12 := (hS10.set hlt8 5 (.string (s.extract 31 (31 + i)))).set hlt8 6 (.string (s.extract (31 + i) (31 + i + x)))
  generalize ((v10.setCell ⟨v3.heap.size, 5, none⟩ (.string (s.extract 31 (31 + i)))).setCell ⟨v3.heap.size, 6, none⟩ (.string (s.extract (31 + i) (31 + i + x)))) = v12 at *
  clear hR10 hS10 d5 d6 d5f d6f c5
  have hV : (cand s).value = .agg #[.int .u64 (fld s 0 8), .int .u32 (fld s 8 4), .int .i64 (fld s 12 1), .int .u64 (fld s 15 8), .int .u64 (fld s 23 8), .string (s.extract 31 (31 + i)), .string (s.extract (31 + i) (31 + i + x))] := by
    subst hi; subst hx; rfl
  have hR13 : Blk v12 v3.heap.size 42 #[.int .u64 (fld s 0 8), .int .u32 (fld s 8 4), .int .i64 (fld s 12 1), .int .u64 (fld s 15 8), .int .u64 (fld s 23 8), .string (s.extract 31 (31 + i)), .string (s.extract (31 + i) (31 + i + x))] := hR12
  clear hR12
  obtain ⟨q0, q1, q2, q3, q4, q5, q6⟩ := keep7 hR13 (Below.refl _ _)
  have hE := fun u => Encode_any (cand s) (cand_fits s hs) u
  rw [hV] at hE
  by_cases hr : (cand s).right = true
  · by_cases hsec : (cand s).sector = s
    · have hans : decV s = .tuple #[.agg #[.int .u64 (fld s 0 8), .int .u32 (fld s 8 4), .int .i64 (fld s 12 1), .int .u64 (fld s 15 8), .int .u64 (fld s 23 8), .string (s.extract 31 (31 + i)), .string (s.extract (31 + i) (31 + i + x))], .int .i64 0] := by
        unfold decV decR
        rw [if_pos ⟨hs, hr, hsec⟩, ← hV]
      simp only [hr, if_true, hsec] at hE
      clear hV hi hx w1 w2 w3 w4 hr hsec
      go_wp2_with (first
        | (go_at_call 94; with_reducible refine (hE _).mono ?_; rintro e v13 ⟨rfl, hB13⟩; have hR14 := hR13.below hB13 hR13.lt; have hS13 := hS12.far hB13; clear q0 q1 q2 q3 q4 q5 q6; obtain ⟨q0, q1, q2, q3, q4, q5, q6⟩ := keep7 hR14 (Below.refl _ _); obtain ⟨p0, p1, p2, p3, p4, p5, p6⟩ := keep7 hS13.res (Below.refl _ _); have pf := fun k => hS13.res.frozen k; clear hR13 hS12 hE hB13))
      have hbb := ((((((hS13.res.set_ 0 (.int .u64 (fld s 0 8))).set_ 1 (.int .u32 (fld s 8 4))).set_ 2 (.int .i64 (fld s 12 1))).set_ 3 (.int .u64 (fld s 15 8))).set_ 4 (.int .u64 (fld s 23 8))).set_ 5 (.string (s.extract 31 (31 + i)))).set_ 6 (.string (s.extract (31 + i) (31 + i + x)))
      have hBf := ((((((hS13.below.setCell (p := ⟨w.heap.size, 0, none⟩) (Nat.le_refl _) (.int .u64 (fld s 0 8))).setCell (p := ⟨w.heap.size, 1, none⟩) (Nat.le_refl _) (.int .u32 (fld s 8 4))).setCell (p := ⟨w.heap.size, 2, none⟩) (Nat.le_refl _) (.int .i64 (fld s 12 1))).setCell (p := ⟨w.heap.size, 3, none⟩) (Nat.le_refl _) (.int .u64 (fld s 15 8))).setCell (p := ⟨w.heap.size, 4, none⟩) (Nat.le_refl _) (.int .u64 (fld s 23 8))).setCell (p := ⟨w.heap.size, 5, none⟩) (Nat.le_refl _) (.string (s.extract 31 (31 + i)))).setCell (p := ⟨w.heap.size, 6, none⟩) (Nat.le_refl _) (.string (s.extract (31 + i) (31 + i + x)))
      have hld := run_loadVar_row (P := Tryz.prog) _ _ _ 42 _ (0, 0) _ hbb Tryz.underlying42 rfl (by kernel_rfl)
      refine bodyPost_ret (v := decV s) ?_ rfl ⟨rfl, hBf⟩
      rw [results_cell_tmp rfl, hans]
      simp [asAddr, Result.andThen, hld]
    · have hans : decV s = .tuple #[.agg #[.int .u64 0, .int .u32 0, .int .i64 0, .int .u64 0, .int .u64 0, .string ⟨#[]⟩, .string ⟨#[]⟩], .int .i64 5] := by
        unfold decV decR
        rw [if_neg (by rintro ⟨_, h1, h2⟩; first | exact hsec h2 | exact hr h1)]
        rfl
      have hs3 : ((cand s).sector.toList == s.toList) = false := bytes_ne hsec
      have hs4 : (!((cand s).sector.toList == s.toList)) = true := by rw [hs3]; rfl
      simp only [hr, if_true] at hE
      clear hV hi hx w1 w2 w3 w4 hr hsec
      go_wp2_with (first
        | (go_at_call 94; with_reducible refine (hE _).mono ?_; rintro e v13 ⟨rfl, hB13⟩; have hR14 := hR13.below hB13 hR13.lt; have hS13 := hS12.far hB13; clear q0 q1 q2 q3 q4 q5 q6; obtain ⟨q0, q1, q2, q3, q4, q5, q6⟩ := keep7 hR14 (Below.refl _ _); obtain ⟨p0, p1, p2, p3, p4, p5, p6⟩ := keep7 hS13.res (Below.refl _ _); have pf := fun k => hS13.res.frozen k; clear hR13 hS12 hE hB13))
      have hbb := ((((((hS13.res.set_ 0 (.int .u64 0)).set_ 1 (.int .u32 0)).set_ 2 (.int .i64 0)).set_ 3 (.int .u64 0)).set_ 4 (.int .u64 0)).set_ 5 (.string ⟨#[]⟩)).set_ 6 (.string ⟨#[]⟩)
      have hBf := ((((((hS13.below.setCell (p := ⟨w.heap.size, 0, none⟩) (Nat.le_refl _) (.int .u64 0)).setCell (p := ⟨w.heap.size, 1, none⟩) (Nat.le_refl _) (.int .u32 0)).setCell (p := ⟨w.heap.size, 2, none⟩) (Nat.le_refl _) (.int .i64 0)).setCell (p := ⟨w.heap.size, 3, none⟩) (Nat.le_refl _) (.int .u64 0)).setCell (p := ⟨w.heap.size, 4, none⟩) (Nat.le_refl _) (.int .u64 0)).setCell (p := ⟨w.heap.size, 5, none⟩) (Nat.le_refl _) (.string ⟨#[]⟩)).setCell (p := ⟨w.heap.size, 6, none⟩) (Nat.le_refl _) (.string ⟨#[]⟩)
      have hld := run_loadVar_row (P := Tryz.prog) _ _ _ 42 _ (0, 0) _ hbb Tryz.underlying42 rfl (by kernel_rfl)
      refine bodyPost_ret (v := decV s) ?_ rfl ⟨rfl, hBf⟩
      rw [results_cell_tmp rfl, hans]
      simp [asAddr, Result.andThen, hld]
  · have hans : decV s = .tuple #[.agg #[.int .u64 0, .int .u32 0, .int .i64 0, .int .u64 0, .int .u64 0, .string ⟨#[]⟩, .string ⟨#[]⟩], .int .i64 5] := by
      unfold decV decR
      rw [if_neg (by rintro ⟨_, h1, h2⟩; first | exact hsec h2 | exact hr h1)]
      rfl
    simp only [hr, if_false] at hE
    clear hV hi hx w1 w2 w3 w4 hr
    go_wp2_with (first
      | (go_at_call 94; with_reducible refine (hE _).mono ?_; rintro e v13 ⟨rfl, hB13⟩; have hR14 := hR13.below hB13 hR13.lt; have hS13 := hS12.far hB13; clear q0 q1 q2 q3 q4 q5 q6; obtain ⟨q0, q1, q2, q3, q4, q5, q6⟩ := keep7 hR14 (Below.refl _ _); obtain ⟨p0, p1, p2, p3, p4, p5, p6⟩ := keep7 hS13.res (Below.refl _ _); have pf := fun k => hS13.res.frozen k; clear hR13 hS12 hE hB13))
    have hbb := ((((((hS13.res.set_ 0 (.int .u64 0)).set_ 1 (.int .u32 0)).set_ 2 (.int .i64 0)).set_ 3 (.int .u64 0)).set_ 4 (.int .u64 0)).set_ 5 (.string ⟨#[]⟩)).set_ 6 (.string ⟨#[]⟩)
    have hBf := ((((((hS13.below.setCell (p := ⟨w.heap.size, 0, none⟩) (Nat.le_refl _) (.int .u64 0)).setCell (p := ⟨w.heap.size, 1, none⟩) (Nat.le_refl _) (.int .u32 0)).setCell (p := ⟨w.heap.size, 2, none⟩) (Nat.le_refl _) (.int .i64 0)).setCell (p := ⟨w.heap.size, 3, none⟩) (Nat.le_refl _) (.int .u64 0)).setCell (p := ⟨w.heap.size, 4, none⟩) (Nat.le_refl _) (.int .u64 0)).setCell (p := ⟨w.heap.size, 5, none⟩) (Nat.le_refl _) (.string ⟨#[]⟩)).setCell (p := ⟨w.heap.size, 6, none⟩) (Nat.le_refl _) (.string ⟨#[]⟩)
    have hld := run_loadVar_row (P := Tryz.prog) _ _ _ 42 _ (0, 0) _ hbb Tryz.underlying42 rfl (by kernel_rfl)
    refine bodyPost_ret (v := decV s) ?_ rfl ⟨rfl, hBf⟩
    rw [results_cell_tmp rfl, hans]
    simp [asAddr, Result.andThen, hld]
end Go.Proofs.YthlbciinpidedaaGreat
/- A record's sector, field by field; plain. -/
namespace Go.Proofs.YthlbciinpidedaaGreat
set_option linter.unusedSimpArgs false
set_option linter.unusedVariables false
set_option maxRecDepth 100000

theorem mod_split (m k : Nat) : (m : Int) % (2 ^ (8 * k) * 2 ^ 8) = (m : Int) % 2 ^ (8 * k) + 2 ^ (8 * k) * ((m : Int) / 2 ^ (8 * k) % 256) := by
  have hb : ((2 : Int) ^ (8 * k)) = ((2 ^ (8 * k) : Nat) : Int) := by push_cast; rfl
  rw [hb]
  generalize 2 ^ (8 * k) = b
  have h : m % (b * 256) = m % b + b * (m / b % 256) := Nat.mod_mul
  show (m : Int) % ((b : Int) * ((256 : Nat) : Int)) = (m : Int) % (b : Int) + (b : Int) * ((m : Int) / (b : Int) % ((256 : Nat) : Int))
  rw [← Int.natCast_mul, ← Int.natCast_emod, h, ← Int.natCast_emod, ← Int.natCast_ediv, ← Int.natCast_emod, ← Int.natCast_mul, ← Int.natCast_add]
theorem leN_leB (n : Int) : ∀ (k : Nat), 0 ≤ n → n < 2 ^ (8 * k) → (leN (leB n k) : Int) = n := by
  have key : ∀ (k : Nat), 0 ≤ n → (leN (leB n k) : Int) = n % 2 ^ (8 * k) := by
    intro k h0
    induction k with
    | zero => simp [leB, leN]
    | succ k ih =>
      have e : leB n (k + 1) = leB n k ++ [UInt8.ofNat (nbyte n k).toNat] := by unfold leB; rw [List.range_succ, List.map_append]; rfl
      have hb := nbyte_in n k
      have hx : (UInt8.ofNat (nbyte n k).toNat).toNat = (nbyte n k).toNat := by rw [UInt8.toNat_ofNat']; omega
      rw [e, leN_append, leB_len]
      show ((leN (leB n k) + 2 ^ (8 * k) * ((UInt8.ofNat (nbyte n k).toNat).toNat + 256 * 0) : Nat) : Int) = _
      rw [hx]
      push_cast
      rw [ih, Int.toNat_of_nonneg hb.1]
      have h1 : n % 2 ^ (8 * (k + 1)) = n % 2 ^ (8 * k) + 2 ^ (8 * k) * (n / 2 ^ (8 * k) % 256) := by
        rw [show 8 * (k + 1) = 8 * k + 8 by omega, Int.pow_add]
        obtain ⟨m, rfl⟩ := Int.eq_ofNat_of_zero_le h0
        exact mod_split m k
      rw [h1]; unfold nbyte; simp
  intro k h0 h
  rw [key k h0, Int.emod_eq_of_lt h0 h]
theorem putB_list (n : Int) (k : Nat) : (putB n k).data.toList = leB n k := by unfold putB; simp
theorem zeroB_list (k : Nat) : (zeroB k).data.toList = List.replicate k 0 := by unfold zeroB; simp
def kind3B (r : Rec) : List UInt8 := [UInt8.ofNat r.kind.toNat, UInt8.ofNat r.id.size, UInt8.ofNat r.val.size]
theorem app_list (a b : ByteArray) : (a ++ b).data.toList = a.data.toList ++ b.data.toList := by rw [ByteArray.data_append, Array.toList_append]
/-- What stands behind the texts. -/
def Rec.tail (r : Rec) : List UInt8 := List.replicate (112 - r.head.size) 0 ++ (leB (crcOf r.body.data.toList) 4 ++ (leB r.lsn 8 ++ leB r.epoch 4))
theorem sector_list (r : Rec) : r.sector.data.toList = leB r.lsn 8 ++ (leB r.epoch 4 ++ (kind3B r ++ (leB r.ver 8 ++ (leB r.dl 8 ++ (r.id.data.toList ++ (r.val.data.toList ++ r.tail)))))) := by
  unfold Rec.sector Rec.tail
  simp only [app_list, putB_list]
  rw [show r.body.data.toList = r.head.data.toList ++ List.replicate (112 - r.head.size) 0 by unfold Rec.body; rw [app_list, zeroB_list]]
  rw [show r.head.data.toList = leB r.lsn 8 ++ leB r.epoch 4 ++ kind3B r ++ leB r.ver 8 ++ leB r.dl 8 ++ r.id.data.toList ++ r.val.data.toList by
    unfold Rec.head; simp only [app_list, putB_list]; rfl]
  simp only [List.append_assoc]
theorem drop_front {α : Type} (a b : List α) (n m : Nat) (h : a.length = n) : (a ++ b).drop (n + m) = b.drop m := by
  rw [List.drop_append, List.drop_of_length_le (by omega), List.nil_append]; congr 1; omega
theorem take_front {α : Type} (a b : List α) (n : Nat) (h : a.length = n) : (a ++ b).take n = a := by
  rw [List.take_append, List.take_of_length_le (by omega), show n - a.length = 0 by omega]; simp
theorem size_len (s : ByteArray) : s.data.toList.length = s.size := by rw [Array.length_toList]; rfl
theorem kind3B_len (r : Rec) : (kind3B r).length = 3 := rfl
section
variable (r : Rec)
theorem sec_drop12 : r.sector.data.toList.drop 12 = kind3B r ++ (leB r.ver 8 ++ (leB r.dl 8 ++ (r.id.data.toList ++ (r.val.data.toList ++ r.tail)))) := by
  rw [sector_list, show 12 = 8 + (4 + 0) from rfl, drop_front _ _ _ _ (leB_len _ 8), drop_front _ _ _ _ (leB_len _ 4), List.drop_zero]
theorem sec_drop15 : r.sector.data.toList.drop 15 = leB r.ver 8 ++ (leB r.dl 8 ++ (r.id.data.toList ++ (r.val.data.toList ++ r.tail))) := by
  rw [show r.sector.data.toList.drop 15 = (r.sector.data.toList.drop 12).drop 3 by rw [List.drop_drop], sec_drop12, show 3 = 3 + 0 from rfl, drop_front _ _ _ _ (kind3B_len r), List.drop_zero]
theorem sec_drop31 : r.sector.data.toList.drop 31 = r.id.data.toList ++ (r.val.data.toList ++ r.tail) := by
  rw [show r.sector.data.toList.drop 31 = (r.sector.data.toList.drop 15).drop 16 by rw [List.drop_drop], sec_drop15, show 16 = 8 + (8 + 0) from rfl, drop_front _ _ _ _ (leB_len _ 8), drop_front _ _ _ _ (leB_len _ 8), List.drop_zero]
theorem fld_of {s : ByteArray} {p m : Nat} {l : List UInt8} (h : (s.data.toList.drop p).take m = l) : fld s p m = leN l := by unfold fld; rw [h]
theorem byteN {n : Nat} (h : n < 256) : leN [UInt8.ofNat n] = n := by
  show (UInt8.ofNat n).toNat + 256 * 0 = n
  rw [UInt8.toNat_ofNat', Nat.mod_eq_of_lt (by omega)]; omega
theorem sec_lsn (hf : r.Fits) : (fld r.sector 0 8 : Int) = r.lsn := by
  rw [fld_of (l := leB r.lsn 8) (by rw [List.drop_zero, sector_list, take_front _ _ _ (leB_len _ 8)])]
  exact leN_leB _ 8 hf.lsn.1 (by have := hf.lsn.2; omega)
theorem sec_epoch (hf : r.Fits) : (fld r.sector 8 4 : Int) = r.epoch := by
  rw [fld_of (l := leB r.epoch 4) (by rw [sector_list, show 8 = 8 + 0 from rfl, drop_front _ _ _ _ (leB_len _ 8), List.drop_zero, take_front _ _ _ (leB_len _ 4)])]
  exact leN_leB _ 4 hf.epoch.1 (by have := hf.epoch.2; omega)
theorem sec_kind (hr : r.right = true) : (fld r.sector 12 1 : Int) = r.kind := by
  obtain ⟨_, _, hk, _⟩ := Rec.sizes hr
  rw [fld_of (l := [UInt8.ofNat r.kind.toNat]) (by rw [sec_drop12]; rfl), byteN (by omega)]; exact Int.toNat_of_nonneg (by omega)
theorem sec_idn (hr : r.right = true) : fld r.sector 13 1 = r.id.size := by
  obtain ⟨hi, _, _, _⟩ := Rec.sizes hr
  rw [fld_of (l := [UInt8.ofNat r.id.size]) (by rw [show 13 = 12 + 1 from rfl, ← List.drop_drop, sec_drop12]; rfl), byteN (by omega)]
theorem sec_valn (hr : r.right = true) : fld r.sector 14 1 = r.val.size := by
  obtain ⟨_, hi, _, _⟩ := Rec.sizes hr
  rw [fld_of (l := [UInt8.ofNat r.val.size]) (by rw [show 14 = 12 + 2 from rfl, ← List.drop_drop, sec_drop12]; rfl), byteN (by omega)]
theorem sec_ver (hf : r.Fits) : (fld r.sector 15 8 : Int) = r.ver := by
  rw [fld_of (l := leB r.ver 8) (by rw [sec_drop15, take_front _ _ _ (leB_len _ 8)])]
  exact leN_leB _ 8 hf.ver.1 (by have := hf.ver.2; omega)
theorem sec_dl (hf : r.Fits) : (fld r.sector 23 8 : Int) = r.dl := by
  rw [fld_of (l := leB r.dl 8) (by rw [show 23 = 15 + 8 from rfl, ← List.drop_drop, sec_drop15, List.drop_append, leB_len, List.drop_of_length_le (by rw [leB_len]; omega)]; exact take_front _ _ _ (leB_len _ 8))]
  exact leN_leB _ 8 hf.dl.1 (by have := hf.dl.2; omega)
theorem list_inj {a b : ByteArray} (h : a.data.toList = b.data.toList) : a = b := ByteArray.ext (Array.ext' h)
theorem extract_list (s : ByteArray) (p q : Nat) : (s.extract p q).data.toList = (s.data.toList.drop p).take (q - p) := by
  rw [ByteArray.data_extract, Array.toList_extract]
theorem sec_id : r.sector.extract 31 (31 + r.id.size) = r.id := by
  refine list_inj ?_
  rw [extract_list, sec_drop31, show 31 + r.id.size - 31 = r.id.size by omega, take_front _ _ _ (size_len _)]
theorem sec_val : r.sector.extract (31 + r.id.size) (31 + r.id.size + r.val.size) = r.val := by
  refine list_inj ?_
  rw [extract_list, ← List.drop_drop, sec_drop31, show 31 + r.id.size + r.val.size - (31 + r.id.size) = r.val.size by omega, ← Nat.add_zero r.id.size, drop_front _ _ _ _ (size_len _), List.drop_zero, take_front _ _ _ (size_len _)]
theorem cand_sector (hr : r.right = true) (hf : r.Fits) : cand r.sector = r := by
  obtain ⟨h1, h2, _, _⟩ := Rec.sizes hr
  have e1 : min (fld r.sector 13 1) 97 = r.id.size := by rw [sec_idn r hr]; omega
  have e2 : min (fld r.sector 14 1) (97 - r.id.size) = r.val.size := by rw [sec_valn r hr]; omega
  unfold cand
  simp only [e1, e2]
  rw [sec_lsn r hf, sec_epoch r hf, sec_kind r hr, sec_ver r hf, sec_dl r hf, sec_id, sec_val]
theorem decR_sector (hr : r.right = true) (hf : r.Fits) : decR r.sector = some r := by
  unfold decR
  rw [cand_sector r hr hf, if_pos ⟨Rec.sector_size hr, hr, rfl⟩]
end
end Go.Proofs.YthlbciinpidedaaGreat
