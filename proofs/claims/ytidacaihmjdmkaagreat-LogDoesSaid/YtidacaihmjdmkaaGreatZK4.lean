/- What the laws of this seat lean on, part 4. -/
import Derived.Test.YtidacaihmjdmkaaGreatZK3
import Derived.Laws.ResultCell
import Derived.Test.YtidacaihmjdmkaaGreatZK1
set_option linter.unusedSimpArgs false
set_option linter.unusedVariables false
set_option maxRecDepth 100000
namespace Go.Proofs.YtidacaihmjdmkaaGreat
open Go.RowKit
attribute [local go_sem high] run_mx run_mn
theorem run_store_fn (w : World) (a : Addr) (f : Fn) (x y : Array Value) (u : Value) (hc : w.cell? a = some u) (hf : w.frozen? a = false) : (store a (.func f x y)).run Tryz.prog w = .ok () (w.setCell a (.func f x y)) := by
  rw [run_store _ _ _ _ _ rfl]
  simp [hc,hf]
structure Left (w : World) (b : Nat) (s : ByteArray) : Prop where
  rest : Blk w b 9 #[.string s]
  fn : Blk w (b + 1) 194 #[.func (Fn.func 113) #[] #[.pointer (some ⟨b,0,none⟩)]]
def fld (s : ByteArray) (p m : Nat) : Nat := leN ((s.data.toList.drop p).take m)
theorem extract_left (s : ByteArray) (p m : Nat) (h : p + m ≤ 128) : (s.extract p 128).extract 0 m = s.extract p (p + m) ∧ (s.extract p 128).extract m (128 - p) = s.extract (p + m) 128 := by
  constructor
  · rw [ByteArray.extract_extract,Nat.add_zero,Nat.min_eq_left (by omega)]
  · rw [ByteArray.extract_extract,Nat.min_eq_right (by omega)]
theorem extract_size (s : ByteArray) (p : Nat) (hs : s.size = 128) (h : p ≤ 128) : (s.extract p 128).size = 128 - p := by rw [ByteArray.size_extract,hs];omega
set_option maxRecDepth 100000 in
set_option maxHeartbeats 4000000 in
theorem take_any (b : Nat) (s : ByteArray) (p m : Nat) (n : Int) (w : World) (hs : s.size = 128) (hp : p + m ≤ 128) (hn : min n (128 - p) = (m : Int)) (h : Left w b (s.extract p 128)) :
    Calls Tryz.prog 113 #[.int .i64 n, .pointer (some ⟨b,0,none⟩)] w fun e w' => e = .returned (.string (s.extract p (p + m))) ∧ Left w' b (s.extract (p + m) 128) ∧ Fr (fun k => k = b) w w' := by
  have c0 := h.rest.cell 0
  have f0 := h.rest.frozen 0
  have hz := extract_size s p hs (by omega)
  obtain ⟨e1,e2⟩ := extract_left s p m hp
  have hm1 : mn n ((s.extract p 128).size : Int) = m := by rw [mn_def,hz];omega
  have hm2 : min n ((s.extract p 128).size : Int) = m := by rw [hz];omega
  have hle : (m : Int) ≤ ((s.extract p 128).size : Int) := by rw [hz];omega
  have e2' : (s.extract p 128).extract m (s.extract p 128).size = s.extract (p + m) 128 := by rw [hz];exact e2
  have hfin : Left (w.setCell ⟨b,0,none⟩ (.string (s.extract (p + m) 128))) b (s.extract (p + m) 128) := ⟨h.rest.set_ 0 _,h.fn.far (by show b + 1 ≠ b;omega) _⟩
  have hF : Fr (fun k => k = b) w (w.setCell ⟨b,0,none⟩ (.string (s.extract (p + m) 128))) := Fr.setCell (Fr.refl (fun k => k = b) w) (p := ⟨b,0,none⟩) (fun _ => rfl) _
  clear h hz e2
  generalize s.extract p 128 = u at *
  go_enter Tryz.func113,Tryz.ntmps113
  go_wp2_with fail
  go_ret
  exact ⟨rfl,hfin,hF⟩
set_option maxRecDepth 100000 in
set_option maxHeartbeats 4000000 in
theorem number_any (b : Nat) (s : ByteArray) (p m : Nat) (n : Int) (w : World) (hs : s.size = 128) (hp : p + m ≤ 128) (hn : n = (m : Int)) (hm : m ≤ 8) (h : Left w b (s.extract p 128)) :
    Calls Tryz.prog 114 #[.int .i64 n, .pointer (some ⟨b + 1,0,none⟩)] w fun e w' => e = .returned (.int .u64 (fld s p m)) ∧ Left w' b (s.extract (p + m) 128) ∧ Fr (fun k => k = b) w w' := by
  have c0 := h.fn.cell 0
  have hz : (s.extract p (p + m)).size ≤ 8 := by rw [ByteArray.size_extract,hs];omega
  have htake := fun w => take_any b s p m n w hs hp (by omega)
  clear hn
  go_enter Tryz.func114,Tryz.ntmps114
  go_wp2_with (first
    | (go_at_call 113;with_reducible refine (htake _ h).mono ?_;rintro e w1 ⟨rfl,h1,hF1⟩;clear htake h c0)
    | (go_at_call 115;with_reducible refine (Get_any _ hz _).mono ?_;rintro e w2 ⟨rfl,hB⟩))
  go_ret
  have hlt := h1.rest.lt
  have hlt2 := h1.fn.lt
  exact ⟨rfl,⟨h1.rest.below hB hlt,h1.fn.below hB hlt2⟩,hF1.trans (Fr.of_below (S := fun k => k = b) hB) (fun _ _ h => h)⟩
theorem bytes_inj {a b : ByteArray} (h : a.toList = b.toList) : a = b := by
  rw [ByteArray.toList_eq,ByteArray.toList_eq] at h
  exact ByteArray.ext (Array.ext' h)
theorem bytes_ne {a b : ByteArray} (h : a ≠ b) : (a.toList == b.toList) = false := by
  rw [beq_eq_false_iff_ne]
  exact fun e => h (bytes_inj e)
def cand (s : ByteArray) : Rec :=
  let i := min (fld s 13 1) 97
  let v := min (fld s 14 1) (97 - i)
  ⟨fld s 0 8,fld s 8 4,fld s 12 1,fld s 15 8,fld s 23 8,s.extract 31 (31 + i),s.extract (31 + i) (31 + i + v)⟩
theorem fld_lt (s : ByteArray) (p m : Nat) : fld s p m < 2 ^ (8 * m) := by
  unfold fld
  refine Nat.lt_of_lt_of_le (leN_lt _) (Nat.pow_le_pow_right (by omega) ?_)
  rw [List.length_take];omega
theorem cand_fits (s : ByteArray) (hs : s.size = 128) : (cand s).Fits := by
  have h1 := fld_lt s 0 8
  have h2 := fld_lt s 8 4
  have h3 := fld_lt s 12 1
  have h4 := fld_lt s 15 8
  have h5 := fld_lt s 23 8
  refine ⟨?_,?_,?_,?_,?_,?_,?_⟩
  · show 0 ≤ (fld s 0 8 : Int) ∧ (fld s 0 8 : Int) < _;omega
  · show 0 ≤ (fld s 8 4 : Int) ∧ (fld s 8 4 : Int) < _;omega
  · show _ ≤ (fld s 12 1 : Int) ∧ (fld s 12 1 : Int) ≤ _;omega
  · show 0 ≤ (fld s 15 8 : Int) ∧ (fld s 15 8 : Int) < _;omega
  · show 0 ≤ (fld s 23 8 : Int) ∧ (fld s 23 8 : Int) < _;omega
  · show (s.extract 31 _).size ≤ _;rw [ByteArray.size_extract,hs];omega
  · show (s.extract _ _).size ≤ _;rw [ByteArray.size_extract,hs];omega
def noRec : Rec := ⟨0,0,0,0,0,⟨#[]⟩,⟨#[]⟩⟩
def decR (s : ByteArray) : Option Rec := if s.size = 128 ∧ (cand s).right = true ∧ (cand s).sector = s then some (cand s) else none
def decV (s : ByteArray) : Value := match decR s with
  | some r => .tuple #[r.value, .int .i64 0]
  | none => .tuple #[noRec.value, .int .i64 5]
theorem Encode_any (r : Rec) (hr : r.Fits) (w : World) : Calls Tryz.prog 116 #[r.value] w fun e w' => e = .returned (.tuple #[.string (if r.right = true then r.sector else ⟨#[]⟩), .int .i64 (if r.right = true then 0 else 5)]) ∧ Below w.heap.size w w' := by
  cases h : r.right with
  | true => rw [if_pos rfl,if_pos rfl];exact Encode_yes r hr h w
  | false => rw [if_neg (by simp),if_neg (by simp)];exact Encode_no r hr h w
structure DecS (w v : World) (s : ByteArray) (p : Nat) : Prop where
  left : Left v (w.heap.size + 1) (s.extract p 128)
  res : Blk v w.heap.size 46 #[.int .u64 0, .int .u32 0, .int .i64 0, .int .u64 0, .int .u64 0, .string ⟨#[]⟩, .string ⟨#[]⟩]
  below : Below w.heap.size w v
theorem DecS.fr {w v v' : World} {s : ByteArray} {p q : Nat} (h : DecS w v s p) (hL : Left v' (w.heap.size + 1) (s.extract q 128)) (hF : Fr (fun k => k = w.heap.size + 1) v v') : DecS w v' s q :=
  ⟨hL,hF.blk h.res (by omega),h.below.trans (hF.below h.below.size (fun k _ e => by omega))⟩
theorem DecS.far {w v v' : World} {s : ByteArray} {p : Nat} (h : DecS w v s p) (hB : Below v.heap.size v v') : DecS w v' s p :=
  ⟨⟨h.left.rest.below hB h.left.rest.lt,h.left.fn.below hB h.left.fn.lt⟩,h.res.below hB h.res.lt,h.below.trans (hB.mono h.below.size)⟩
theorem DecS.alloc {w v : World} {s : ByteArray} {p : Nat} (h : DecS w v s p) (o : Obj) : DecS w (v.alloc o) s p := h.far ((Below.refl _ _).alloc (Nat.le_refl _) o)
theorem take_len1 (a i : Nat) (h : min a 97 = i) : 31 + i ≤ 128 ∧ min (a : Int) (128 - (31 : Nat)) = (i : Int) := by omega
theorem take_len2 (a i x : Nat) (h : min a (97 - i) = x) (hi : 31 + i ≤ 128) : 31 + i + x ≤ 128 ∧ min (a : Int) (128 - ((31 + i : Nat) : Int)) = (x : Int) := by omega
theorem DecS.set {w v : World} {s : ByteArray} {p rb : Nat} (h : DecS w v s p) (hr : w.heap.size + 1 + 1 < rb) (i : Nat) (u : Value) : DecS w (v.setCell ⟨rb,i,none⟩ u) s p :=
  ⟨⟨h.left.rest.far (by show w.heap.size + 1 ≠ rb;omega) u,h.left.fn.far (by show w.heap.size + 1 + 1 ≠ rb;omega) u⟩,h.res.far (by show w.heap.size ≠ rb;omega) u,h.below.setCell (by show w.heap.size ≤ rb;omega) u⟩
theorem DecS.fncell {w v : World} {s : ByteArray} {p : Nat} (h : DecS w v s p) : v.cell? ⟨w.heap.size + 1 + 1,0,none⟩ = some (.func (Fn.func 113) #[] #[.pointer (some ⟨w.heap.size + 1,0,none⟩)]) := h.left.fn.cell 0
theorem numS (s : ByteArray) (hs : s.size = 128) (p m : Nat) (n : Int) (hp : p + m ≤ 128) (hn : n = (m : Int)) (hm : m ≤ 8) {w v : World} (h : DecS w v s p) :
    Calls Tryz.prog 114 #[.int .i64 n, .pointer (some ⟨w.heap.size + 1 + 1,0,none⟩)] v fun e v' => e = .returned (.int .u64 (fld s p m)) ∧ DecS w v' s (p + m) ∧ Fr (fun k => k = w.heap.size + 1) v v' :=
  (number_any _ s p m n v hs hp hn hm h.left).mono fun _ _ ⟨he,hL,hF⟩ => ⟨he,h.fr hL hF,hF⟩
theorem takeS (s : ByteArray) (hs : s.size = 128) (p m : Nat) (n : Int) (hp : p + m ≤ 128) (hn : min n (128 - p) = (m : Int)) {w v : World} (h : DecS w v s p) :
    Calls Tryz.prog 113 #[.int .i64 n, .pointer (some ⟨w.heap.size + 1,0,none⟩)] v fun e v' => e = .returned (.string (s.extract p (p + m))) ∧ DecS w v' s (p + m) ∧ Fr (fun k => k = w.heap.size + 1) v v' :=
  (take_any _ s p m n v hs hp hn h.left).mono fun _ _ ⟨he,hL,hF⟩ => ⟨he,h.fr hL hF,hF⟩
set_option maxRecDepth 100000 in
set_option maxHeartbeats 4000000 in
theorem Decode_no (s : ByteArray) (hs : s.size ≠ 128) (w : World) : Calls Tryz.prog 58 #[.string s] w fun e w' => e = .returned (.tuple #[noRec.value, .int .i64 5]) ∧ Below w.heap.size w w' := by
  have hs2 : ((s.size : Int) == 128) = false := by simp;omega
  have hs3 : ((s.size : Int) != 128) = true := by simp;omega
  unfold Rec.value noRec
  go_enter Tryz.func58,Tryz.ntmps58
  go_wp2_with fail
  have hb := Blk.new w 46 #[.int .u64 0, .int .u32 0, .int .i64 0, .int .u64 0, .int .u64 0, .string ⟨#[]⟩, .string ⟨#[]⟩]
  have hld := run_loadVar_row (P := Tryz.prog) _ _ _ 46 _ (0,0) _ hb Tryz.underlying46 rfl (by kernel_rfl)
  (try simp only [Exit.inBlock,Exit.then])
  refine bodyPost_ret (v := .tuple #[.agg #[.int .u64 0, .int .u32 0, .int .i64 0, .int .u64 0, .int .u64 0, .string ⟨#[]⟩, .string ⟨#[]⟩], .int .i64 5]) ?_ rfl ⟨rfl,(Below.refl _ _).alloc (Nat.le_refl _) _⟩
  rw [results_cell_tmp rfl]
  simp [asAddr,Result.andThen,hld]
set_option maxRecDepth 100000 in
set_option maxHeartbeats 4000000 in
theorem Decode_128 (s : ByteArray) (hs : s.size = 128) (w : World) : Calls Tryz.prog 58 #[.string s] w fun e w' => e = .returned (decV s) ∧ Below w.heap.size w w' := by
  have hs2 : (s.size : Int) = 128 := by omega
  have hst : ∀ (w : World) (b : Nat) (x y : Array Value) (f : Fn),w.cell? ⟨b,0,none⟩ = some .nilFunc → w.frozen? ⟨b,0,none⟩ = false → (store ⟨b,0,none⟩ (.func f x y)).run Tryz.prog w = .ok () (w.setCell ⟨b,0,none⟩ (.func f x y)) := fun w b x y f hc hf => run_store_fn w _ f x y _ hc hf
  have n1 := Blk.new ((w.alloc (.cells #[.int .u64 0, .int .u32 0, .int .i64 0, .int .u64 0, .int .u64 0, .string ⟨#[]⟩, .string ⟨#[]⟩] 46)).alloc (.cells #[.string s] 9)) 194 #[.nilFunc]
  rw [show ((w.alloc (.cells #[.int .u64 0, .int .u32 0, .int .i64 0, .int .u64 0, .int .u64 0, .string ⟨#[]⟩, .string ⟨#[]⟩] 46)).alloc (.cells #[.string s] 9)).heap.size = w.heap.size + 1 + 1 by simp] at n1
  have hst1 := hst _ (w.heap.size + 1 + 1) #[] #[.pointer (some ⟨w.heap.size + 1,0,none⟩)] (Fn.func 113) (n1.cell 0) (n1.frozen 0)
  have hS0 : DecS w (((w.alloc (.cells #[.int .u64 0, .int .u32 0, .int .i64 0, .int .u64 0, .int .u64 0, .string ⟨#[]⟩, .string ⟨#[]⟩] 46)).alloc (.cells #[.string s] 9)).alloc (.cells #[.func (Fn.func 113) #[] #[.pointer (some ⟨w.heap.size + 1,0,none⟩)]] 194)) s 0 := by
    have m1 := Blk.new w 46 #[.int .u64 0, .int .u32 0, .int .i64 0, .int .u64 0, .int .u64 0, .string ⟨#[]⟩, .string ⟨#[]⟩]
    have m2 := Blk.new (w.alloc (.cells #[.int .u64 0, .int .u32 0, .int .i64 0, .int .u64 0, .int .u64 0, .string ⟨#[]⟩, .string ⟨#[]⟩] 46)) 9 #[.string s]
    have m3 := Blk.new ((w.alloc (.cells #[.int .u64 0, .int .u32 0, .int .i64 0, .int .u64 0, .int .u64 0, .string ⟨#[]⟩, .string ⟨#[]⟩] 46)).alloc (.cells #[.string s] 9)) 194 #[.func (Fn.func 113) #[] #[.pointer (some ⟨w.heap.size + 1,0,none⟩)]]
    have es : s.extract 0 128 = s := by rw [← hs];exact ByteArray.extract_zero_size
    simp only [World.alloc,Array.size_push] at m2 m3
    refine ⟨⟨?_,m3⟩,(m1.alloc _).alloc _,(((Below.refl _ _).alloc (Nat.le_refl _) _).alloc (by simp) _).alloc (by simp;omega) _⟩
    rw [es]
    exact (show Blk _ (w.heap.size + 1) _ _ from m2).alloc _
  clear hst n1
  have N0 : ∀ v,DecS w v s 0 → Calls Tryz.prog 114 #[.int .i64 8, .pointer (some ⟨w.heap.size + 1 + 1,0,none⟩)] v fun e v' => e = .returned (.int .u64 (fld s 0 8)) ∧ DecS w v' s 8 ∧ Fr (fun k => k = w.heap.size + 1) v v' := fun v h => numS s hs 0 8 8 (by decide) (by decide) (by decide) h
  have N1 : ∀ v,DecS w v s 8 → Calls Tryz.prog 114 #[.int .i64 4, .pointer (some ⟨w.heap.size + 1 + 1,0,none⟩)] v fun e v' => e = .returned (.int .u64 (fld s 8 4)) ∧ DecS w v' s 12 ∧ Fr (fun k => k = w.heap.size + 1) v v' := fun v h => numS s hs 8 4 4 (by decide) (by decide) (by decide) h
  have N2 : ∀ v,DecS w v s 12 → Calls Tryz.prog 114 #[.int .i64 1, .pointer (some ⟨w.heap.size + 1 + 1,0,none⟩)] v fun e v' => e = .returned (.int .u64 (fld s 12 1)) ∧ DecS w v' s 13 ∧ Fr (fun k => k = w.heap.size + 1) v v' := fun v h => numS s hs 12 1 1 (by decide) (by decide) (by decide) h
  have N3 : ∀ v,DecS w v s 13 → Calls Tryz.prog 114 #[.int .i64 1, .pointer (some ⟨w.heap.size + 1 + 1,0,none⟩)] v fun e v' => e = .returned (.int .u64 (fld s 13 1)) ∧ DecS w v' s 14 ∧ Fr (fun k => k = w.heap.size + 1) v v' := fun v h => numS s hs 13 1 1 (by decide) (by decide) (by decide) h
  have N4 : ∀ v,DecS w v s 14 → Calls Tryz.prog 114 #[.int .i64 1, .pointer (some ⟨w.heap.size + 1 + 1,0,none⟩)] v fun e v' => e = .returned (.int .u64 (fld s 14 1)) ∧ DecS w v' s 15 ∧ Fr (fun k => k = w.heap.size + 1) v v' := fun v h => numS s hs 14 1 1 (by decide) (by decide) (by decide) h
  have N5 : ∀ v,DecS w v s 15 → Calls Tryz.prog 114 #[.int .i64 8, .pointer (some ⟨w.heap.size + 1 + 1,0,none⟩)] v fun e v' => e = .returned (.int .u64 (fld s 15 8)) ∧ DecS w v' s 23 ∧ Fr (fun k => k = w.heap.size + 1) v v' := fun v h => numS s hs 15 8 8 (by decide) (by decide) (by decide) h
  have N6 : ∀ v,DecS w v s 23 → Calls Tryz.prog 114 #[.int .i64 8, .pointer (some ⟨w.heap.size + 1 + 1,0,none⟩)] v fun e v' => e = .returned (.int .u64 (fld s 23 8)) ∧ DecS w v' s 31 ∧ Fr (fun k => k = w.heap.size + 1) v v' := fun v h => numS s hs 23 8 8 (by decide) (by decide) (by decide) h
  obtain ⟨i,hi⟩ : ∃ i,min (fld s 13 1) 97 = i := ⟨_,rfl⟩
  obtain ⟨x,hx⟩ : ∃ x,min (fld s 14 1) (97 - i) = x := ⟨_,rfl⟩
  have b1 := fld_lt s 8 4
  have b2 := fld_lt s 12 1
  have b3 := fld_lt s 13 1
  have b4 := fld_lt s 14 1
  have w1 : (fld s 8 4 : Int) % 4294967296 = fld s 8 4 := by omega
  have w2 : wrap64 (fld s 12 1 : Int) = fld s 12 1 := by unfold wrap64;omega
  have w3 : wrap64 (fld s 13 1 : Int) = fld s 13 1 := by unfold wrap64;omega
  have w4 : wrap64 (fld s 14 1 : Int) = fld s 14 1 := by unfold wrap64;omega
  have T0 : ∀ v,DecS w v s 31 → Calls Tryz.prog 113 #[.int .i64 (fld s 13 1), .pointer (some ⟨w.heap.size + 1,0,none⟩)] v fun e v' => e = .returned (.string (s.extract 31 (31 + i))) ∧ DecS w v' s (31 + i) ∧ Fr (fun k => k = w.heap.size + 1) v v' := fun v h => takeS s hs 31 i _ (take_len1 _ i hi).1 (take_len1 _ i hi).2 h
  have T1 : ∀ v,DecS w v s (31 + i) → Calls Tryz.prog 113 #[.int .i64 (fld s 14 1), .pointer (some ⟨w.heap.size + 1,0,none⟩)] v fun e v' => e = .returned (.string (s.extract (31 + i) (31 + i + x))) ∧ DecS w v' s (31 + i + x) ∧ Fr (fun k => k = w.heap.size + 1) v v' := fun v h => takeS s hs (31 + i) x _ (take_len2 _ i x hx (take_len1 _ i hi).1).1 (take_len2 _ i x hx (take_len1 _ i hi).1).2 h
  clear b1 b2 b3 b4
  go_enter Tryz.func58,Tryz.ntmps58
  go_wp2_with (first
    | (go_at_call 114;with_reducible refine (N0 _ hS0).mono ?_;rintro e v1 ⟨rfl,hS1,hF1⟩;clear hS0 N0 hF1)
    | (go_at_call 114;with_reducible refine (N1 _ hS1).mono ?_;rintro e v2 ⟨rfl,hS2,hF2⟩;clear hS1 N1 hF2)
    | (go_at_call 114;with_reducible refine (N2 _ hS2).mono ?_;rintro e v3 ⟨rfl,hS3,hF3⟩;clear hS2 N2 hF3)
    | (go_at_call 114;with_reducible refine (N3 _ (hS3.alloc _)).mono ?_;rintro e v4 ⟨rfl,hS4,hF4⟩;have hne := hS3.left.fn.lt;have hR4 := hF4.blk (Blk.new v3 46 _) (by omega);clear hS3 N3 hF4)
    | (go_at_call 114;with_reducible refine (N4 _ hS4).mono ?_;rintro e v5 ⟨rfl,hS5,hF5⟩;have hR5 := hF5.blk hR4 (by omega);clear hS4 N4 hF5 hR4)
    | (go_at_call 114;with_reducible refine (N5 _ hS5).mono ?_;rintro e v6 ⟨rfl,hS6,hF6⟩;have hR6 := hF6.blk hR5 (by omega);clear hS5 N5 hF6 hR5)
    | (go_at_call 114;with_reducible refine (N6 _ hS6).mono ?_;rintro e v7 ⟨rfl,hS7,hF7⟩;have hR7 := hF7.blk hR6 (by omega);have q3 := hR7.cell 3;have q4 := hR7.cell 4;have q3f := hR7.frozen 3;have q4f := hR7.frozen 4;clear hS6 N6 hF7 hR6))
  have hS8 := (hS7.set hne 3 (.int .u64 (fld s 15 8))).set hne 4 (.int .u64 (fld s 23 8))
  have hR8 := (hR7.set_ 3 (.int .u64 (fld s 15 8))).set_ 4 (.int .u64 (fld s 23 8))
  have hlt8 : w.heap.size + 1 + 1 < v3.heap.size := hne
  generalize ((v7.setCell ⟨v3.heap.size,3,none⟩ (.int .u64 (fld s 15 8))).setCell ⟨v3.heap.size,4,none⟩ (.int .u64 (fld s 23 8))) = v8 at *
  have c5 : v8.drew.cell? ⟨w.heap.size + 1 + 1,0,none⟩ = some (.func (Fn.func 113) #[] #[.pointer (some ⟨w.heap.size + 1,0,none⟩)]) := hS8.left.fn.cell 0
  have hS8d : DecS w v8.drew s 31 := ⟨⟨hS8.left.rest.drew,hS8.left.fn.drew⟩,hS8.res.drew,hS8.below.trans ⟨rfl,rfl,rfl,Nat.le_refl _,fun _ _ => rfl⟩⟩
  have hR8d := hR8.drew
  clear hS8 hR8 hR7 hS7 q3 q4 q3f q4f hst1
  go_region_held3 (fun v => v.cell? ⟨w.heap.size + 1 + 1,0,none⟩ = some (.func (Fn.func 113) #[] #[.pointer (some ⟨w.heap.size + 1,0,none⟩)]))
    (first | with_reducible exact c5 | exact hS9.fncell | exact hS10.fncell | exact (hS10.set hlt8 5 _).fncell | exact ((hS10.set hlt8 5 _).set hlt8 6 _).fncell)
    (first
      | (go_at_call 113;with_reducible refine (T0 _ hS8d).mono ?_;rintro e v9 ⟨rfl,hS9,hF9⟩;have hR9 := hF9.blk hR8d (by omega);clear hS8d hR8d T0 hF9)
      | (go_at_call 113;with_reducible refine (T1 _ hS9).mono ?_;rintro e v10 ⟨rfl,hS10,hF10⟩;have hR10 := hF10.blk hR9 (by omega);have d5 := hR10.cell 5;have d6 := hR10.cell 6;have d5f := hR10.frozen 5;have d6f := hR10.frozen 6;clear hS9 hR9 T1 hF10))
  have hR12 := (hR10.set_ 5 (.string (s.extract 31 (31 + i)))).set_ 6 (.string (s.extract (31 + i) (31 + i + x)))
  have hS12 := (hS10.set hlt8 5 (.string (s.extract 31 (31 + i)))).set hlt8 6 (.string (s.extract (31 + i) (31 + i + x)))
  generalize ((v10.setCell ⟨v3.heap.size,5,none⟩ (.string (s.extract 31 (31 + i)))).setCell ⟨v3.heap.size,6,none⟩ (.string (s.extract (31 + i) (31 + i + x)))) = v12 at *
  clear hR10 hS10 d5 d6 d5f d6f c5
  have hV : (cand s).value = .agg #[.int .u64 (fld s 0 8), .int .u32 (fld s 8 4), .int .i64 (fld s 12 1), .int .u64 (fld s 15 8), .int .u64 (fld s 23 8), .string (s.extract 31 (31 + i)), .string (s.extract (31 + i) (31 + i + x))] := by
    subst hi;subst hx;rfl
  have hR13 : Blk v12 v3.heap.size 46 #[.int .u64 (fld s 0 8), .int .u32 (fld s 8 4), .int .i64 (fld s 12 1), .int .u64 (fld s 15 8), .int .u64 (fld s 23 8), .string (s.extract 31 (31 + i)), .string (s.extract (31 + i) (31 + i + x))] := hR12
  clear hR12
  obtain ⟨q0,q1,q2,q3,q4,q5,q6⟩ := keep7 hR13 (Below.refl _ _)
  have hE := fun u => Encode_any (cand s) (cand_fits s hs) u
  rw [hV] at hE
  by_cases hr : (cand s).right = true
  · by_cases hsec : (cand s).sector = s
    · have hans : decV s = .tuple #[.agg #[.int .u64 (fld s 0 8), .int .u32 (fld s 8 4), .int .i64 (fld s 12 1), .int .u64 (fld s 15 8), .int .u64 (fld s 23 8), .string (s.extract 31 (31 + i)), .string (s.extract (31 + i) (31 + i + x))], .int .i64 0] := by
        unfold decV decR
        rw [if_pos ⟨hs,hr,hsec⟩, ← hV]
      simp only [hr,if_true,hsec] at hE
      clear hV hi hx w1 w2 w3 w4 hr hsec
      go_wp2_with (first
        | (go_at_call 116;with_reducible refine (hE _).mono ?_;rintro e v13 ⟨rfl,hB13⟩;have hR14 := hR13.below hB13 hR13.lt;have hS13 := hS12.far hB13;clear q0 q1 q2 q3 q4 q5 q6;obtain ⟨q0,q1,q2,q3,q4,q5,q6⟩ := keep7 hR14 (Below.refl _ _);obtain ⟨p0,p1,p2,p3,p4,p5,p6⟩ := keep7 hS13.res (Below.refl _ _);have pf := fun k => hS13.res.frozen k;clear hR13 hS12 hE hB13))
      have hbb := ((((((hS13.res.set_ 0 (.int .u64 (fld s 0 8))).set_ 1 (.int .u32 (fld s 8 4))).set_ 2 (.int .i64 (fld s 12 1))).set_ 3 (.int .u64 (fld s 15 8))).set_ 4 (.int .u64 (fld s 23 8))).set_ 5 (.string (s.extract 31 (31 + i)))).set_ 6 (.string (s.extract (31 + i) (31 + i + x)))
      have hBf := ((((((hS13.below.setCell (p := ⟨w.heap.size,0,none⟩) (Nat.le_refl _) (.int .u64 (fld s 0 8))).setCell (p := ⟨w.heap.size,1,none⟩) (Nat.le_refl _) (.int .u32 (fld s 8 4))).setCell (p := ⟨w.heap.size,2,none⟩) (Nat.le_refl _) (.int .i64 (fld s 12 1))).setCell (p := ⟨w.heap.size,3,none⟩) (Nat.le_refl _) (.int .u64 (fld s 15 8))).setCell (p := ⟨w.heap.size,4,none⟩) (Nat.le_refl _) (.int .u64 (fld s 23 8))).setCell (p := ⟨w.heap.size,5,none⟩) (Nat.le_refl _) (.string (s.extract 31 (31 + i)))).setCell (p := ⟨w.heap.size,6,none⟩) (Nat.le_refl _) (.string (s.extract (31 + i) (31 + i + x)))
      have hld := run_loadVar_row (P := Tryz.prog) _ _ _ 46 _ (0,0) _ hbb Tryz.underlying46 rfl (by kernel_rfl)
      refine bodyPost_ret (v := decV s) ?_ rfl ⟨rfl,hBf⟩
      rw [results_cell_tmp rfl,hans]
      simp [asAddr,Result.andThen,hld]
    · have hans : decV s = .tuple #[.agg #[.int .u64 0, .int .u32 0, .int .i64 0, .int .u64 0, .int .u64 0, .string ⟨#[]⟩, .string ⟨#[]⟩], .int .i64 5] := by
        unfold decV decR
        rw [if_neg (by rintro ⟨_,h1,h2⟩;first | exact hsec h2 | exact hr h1)]
        rfl
      have hs3 : ((cand s).sector.toList == s.toList) = false := bytes_ne hsec
      have hs4 : (!((cand s).sector.toList == s.toList)) = true := by rw [hs3];rfl
      simp only [hr,if_true] at hE
      clear hV hi hx w1 w2 w3 w4 hr hsec
      go_wp2_with (first
        | (go_at_call 116;with_reducible refine (hE _).mono ?_;rintro e v13 ⟨rfl,hB13⟩;have hR14 := hR13.below hB13 hR13.lt;have hS13 := hS12.far hB13;clear q0 q1 q2 q3 q4 q5 q6;obtain ⟨q0,q1,q2,q3,q4,q5,q6⟩ := keep7 hR14 (Below.refl _ _);obtain ⟨p0,p1,p2,p3,p4,p5,p6⟩ := keep7 hS13.res (Below.refl _ _);have pf := fun k => hS13.res.frozen k;clear hR13 hS12 hE hB13))
      have hbb := ((((((hS13.res.set_ 0 (.int .u64 0)).set_ 1 (.int .u32 0)).set_ 2 (.int .i64 0)).set_ 3 (.int .u64 0)).set_ 4 (.int .u64 0)).set_ 5 (.string ⟨#[]⟩)).set_ 6 (.string ⟨#[]⟩)
      have hBf := ((((((hS13.below.setCell (p := ⟨w.heap.size,0,none⟩) (Nat.le_refl _) (.int .u64 0)).setCell (p := ⟨w.heap.size,1,none⟩) (Nat.le_refl _) (.int .u32 0)).setCell (p := ⟨w.heap.size,2,none⟩) (Nat.le_refl _) (.int .i64 0)).setCell (p := ⟨w.heap.size,3,none⟩) (Nat.le_refl _) (.int .u64 0)).setCell (p := ⟨w.heap.size,4,none⟩) (Nat.le_refl _) (.int .u64 0)).setCell (p := ⟨w.heap.size,5,none⟩) (Nat.le_refl _) (.string ⟨#[]⟩)).setCell (p := ⟨w.heap.size,6,none⟩) (Nat.le_refl _) (.string ⟨#[]⟩)
      have hld := run_loadVar_row (P := Tryz.prog) _ _ _ 46 _ (0,0) _ hbb Tryz.underlying46 rfl (by kernel_rfl)
      refine bodyPost_ret (v := decV s) ?_ rfl ⟨rfl,hBf⟩
      rw [results_cell_tmp rfl,hans]
      simp [asAddr,Result.andThen,hld]
  · have hans : decV s = .tuple #[.agg #[.int .u64 0, .int .u32 0, .int .i64 0, .int .u64 0, .int .u64 0, .string ⟨#[]⟩, .string ⟨#[]⟩], .int .i64 5] := by
      unfold decV decR
      rw [if_neg (by rintro ⟨_,h1,h2⟩;first | exact hsec h2 | exact hr h1)]
      rfl
    simp only [hr,if_false] at hE
    clear hV hi hx w1 w2 w3 w4 hr
    go_wp2_with (first
      | (go_at_call 116;with_reducible refine (hE _).mono ?_;rintro e v13 ⟨rfl,hB13⟩;have hR14 := hR13.below hB13 hR13.lt;have hS13 := hS12.far hB13;clear q0 q1 q2 q3 q4 q5 q6;obtain ⟨q0,q1,q2,q3,q4,q5,q6⟩ := keep7 hR14 (Below.refl _ _);obtain ⟨p0,p1,p2,p3,p4,p5,p6⟩ := keep7 hS13.res (Below.refl _ _);have pf := fun k => hS13.res.frozen k;clear hR13 hS12 hE hB13))
    have hbb := ((((((hS13.res.set_ 0 (.int .u64 0)).set_ 1 (.int .u32 0)).set_ 2 (.int .i64 0)).set_ 3 (.int .u64 0)).set_ 4 (.int .u64 0)).set_ 5 (.string ⟨#[]⟩)).set_ 6 (.string ⟨#[]⟩)
    have hBf := ((((((hS13.below.setCell (p := ⟨w.heap.size,0,none⟩) (Nat.le_refl _) (.int .u64 0)).setCell (p := ⟨w.heap.size,1,none⟩) (Nat.le_refl _) (.int .u32 0)).setCell (p := ⟨w.heap.size,2,none⟩) (Nat.le_refl _) (.int .i64 0)).setCell (p := ⟨w.heap.size,3,none⟩) (Nat.le_refl _) (.int .u64 0)).setCell (p := ⟨w.heap.size,4,none⟩) (Nat.le_refl _) (.int .u64 0)).setCell (p := ⟨w.heap.size,5,none⟩) (Nat.le_refl _) (.string ⟨#[]⟩)).setCell (p := ⟨w.heap.size,6,none⟩) (Nat.le_refl _) (.string ⟨#[]⟩)
    have hld := run_loadVar_row (P := Tryz.prog) _ _ _ 46 _ (0,0) _ hbb Tryz.underlying46 rfl (by kernel_rfl)
    refine bodyPost_ret (v := decV s) ?_ rfl ⟨rfl,hBf⟩
    rw [results_cell_tmp rfl,hans]
    simp [asAddr,Result.andThen,hld]
end Go.Proofs.YtidacaihmjdmkaaGreat
namespace Go.Proofs.YtidacaihmjdmkaaGreat
theorem mod_split (m k : Nat) : (m : Int) % (2 ^ (8 * k) * 2 ^ 8) = (m : Int) % 2 ^ (8 * k) + 2 ^ (8 * k) * ((m : Int) / 2 ^ (8 * k) % 256) := by
  have hb : ((2 : Int) ^ (8 * k)) = ((2 ^ (8 * k) : Nat) : Int) := by push_cast;rfl
  rw [hb]
  generalize 2 ^ (8 * k) = b
  have h : m % (b * 256) = m % b + b * (m / b % 256) := Nat.mod_mul
  show (m : Int) % ((b : Int) * ((256 : Nat) : Int)) = (m : Int) % (b : Int) + (b : Int) * ((m : Int) / (b : Int) % ((256 : Nat) : Int))
  rw [← Int.natCast_mul, ← Int.natCast_emod,h, ← Int.natCast_emod, ← Int.natCast_ediv, ← Int.natCast_emod, ← Int.natCast_mul, ← Int.natCast_add]
theorem leN_leB (n : Int) : ∀ (k : Nat),0 ≤ n → n < 2 ^ (8 * k) → (leN (leB n k) : Int) = n := by
  have key : ∀ (k : Nat),0 ≤ n → (leN (leB n k) : Int) = n % 2 ^ (8 * k) := by
    intro k h0
    induction k with
    | zero => simp [leB,leN]
    | succ k ih =>
      have e : leB n (k + 1) = leB n k ++ [UInt8.ofNat (nbyte n k).toNat] := by unfold leB;rw [List.range_succ,List.map_append];rfl
      have hb := nbyte_in n k
      have hx : (UInt8.ofNat (nbyte n k).toNat).toNat = (nbyte n k).toNat := by rw [UInt8.toNat_ofNat'];omega
      rw [e,leN_append,leB_len]
      show ((leN (leB n k) + 2 ^ (8 * k) * ((UInt8.ofNat (nbyte n k).toNat).toNat + 256 * 0) : Nat) : Int) = _
      rw [hx]
      push_cast
      rw [ih,Int.toNat_of_nonneg hb.1]
      have h1 : n % 2 ^ (8 * (k + 1)) = n % 2 ^ (8 * k) + 2 ^ (8 * k) * (n / 2 ^ (8 * k) % 256) := by
        rw [show 8 * (k + 1) = 8 * k + 8 by omega,Int.pow_add]
        obtain ⟨m,rfl⟩ := Int.eq_ofNat_of_zero_le h0
        exact mod_split m k
      rw [h1];unfold nbyte;simp
  intro k h0 h
  rw [key k h0,Int.emod_eq_of_lt h0 h]
theorem putB_list (n : Int) (k : Nat) : (putB n k).data.toList = leB n k := by unfold putB;simp
theorem zeroB_list (k : Nat) : (zeroB k).data.toList = List.replicate k 0 := by unfold zeroB;simp
def kind3B (r : Rec) : List UInt8 := [UInt8.ofNat r.kind.toNat,UInt8.ofNat r.id.size,UInt8.ofNat r.val.size]
theorem app_list (a b : ByteArray) : (a ++ b).data.toList = a.data.toList ++ b.data.toList := by rw [ByteArray.data_append,Array.toList_append]
def Rec.tail (r : Rec) : List UInt8 := List.replicate (112 - r.head.size) 0 ++ (leB (crcOf r.body.data.toList) 4 ++ (leB r.lsn 8 ++ leB r.epoch 4))
theorem sector_list (r : Rec) : r.sector.data.toList = leB r.lsn 8 ++ (leB r.epoch 4 ++ (kind3B r ++ (leB r.ver 8 ++ (leB r.dl 8 ++ (r.id.data.toList ++ (r.val.data.toList ++ r.tail)))))) := by
  unfold Rec.sector Rec.tail
  simp only [app_list,putB_list]
  rw [show r.body.data.toList = r.head.data.toList ++ List.replicate (112 - r.head.size) 0 by unfold Rec.body;rw [app_list,zeroB_list]]
  rw [show r.head.data.toList = leB r.lsn 8 ++ leB r.epoch 4 ++ kind3B r ++ leB r.ver 8 ++ leB r.dl 8 ++ r.id.data.toList ++ r.val.data.toList by
    unfold Rec.head;simp only [app_list,putB_list];rfl]
  simp only [List.append_assoc]
theorem drop_front {α : Type} (a b : List α) (n m : Nat) (h : a.length = n) : (a ++ b).drop (n + m) = b.drop m := by
  rw [List.drop_append,List.drop_of_length_le (by omega),List.nil_append];congr 1;omega
theorem take_front {α : Type} (a b : List α) (n : Nat) (h : a.length = n) : (a ++ b).take n = a := by
  rw [List.take_append,List.take_of_length_le (by omega),show n - a.length = 0 by omega];simp
theorem size_len (s : ByteArray) : s.data.toList.length = s.size := by rw [Array.length_toList];rfl
theorem kind3B_len (r : Rec) : (kind3B r).length = 3 := rfl
section
variable (r : Rec)
theorem sec_drop12 : r.sector.data.toList.drop 12 = kind3B r ++ (leB r.ver 8 ++ (leB r.dl 8 ++ (r.id.data.toList ++ (r.val.data.toList ++ r.tail)))) := by
  rw [sector_list,show 12 = 8 + (4 + 0) from rfl,drop_front _ _ _ _ (leB_len _ 8),drop_front _ _ _ _ (leB_len _ 4),List.drop_zero]
theorem sec_drop15 : r.sector.data.toList.drop 15 = leB r.ver 8 ++ (leB r.dl 8 ++ (r.id.data.toList ++ (r.val.data.toList ++ r.tail))) := by
  rw [show r.sector.data.toList.drop 15 = (r.sector.data.toList.drop 12).drop 3 by rw [List.drop_drop],sec_drop12,show 3 = 3 + 0 from rfl,drop_front _ _ _ _ (kind3B_len r),List.drop_zero]
theorem sec_drop31 : r.sector.data.toList.drop 31 = r.id.data.toList ++ (r.val.data.toList ++ r.tail) := by
  rw [show r.sector.data.toList.drop 31 = (r.sector.data.toList.drop 15).drop 16 by rw [List.drop_drop],sec_drop15,show 16 = 8 + (8 + 0) from rfl,drop_front _ _ _ _ (leB_len _ 8),drop_front _ _ _ _ (leB_len _ 8),List.drop_zero]
theorem fld_of {s : ByteArray} {p m : Nat} {l : List UInt8} (h : (s.data.toList.drop p).take m = l) : fld s p m = leN l := by unfold fld;rw [h]
theorem byteN {n : Nat} (h : n < 256) : leN [UInt8.ofNat n] = n := by
  show (UInt8.ofNat n).toNat + 256 * 0 = n
  rw [UInt8.toNat_ofNat',Nat.mod_eq_of_lt (by omega)];omega
theorem sec_lsn (hf : r.Fits) : (fld r.sector 0 8 : Int) = r.lsn := by
  rw [fld_of (l := leB r.lsn 8) (by rw [List.drop_zero,sector_list,take_front _ _ _ (leB_len _ 8)])]
  exact leN_leB _ 8 hf.lsn.1 (by have := hf.lsn.2;omega)
theorem sec_epoch (hf : r.Fits) : (fld r.sector 8 4 : Int) = r.epoch := by
  rw [fld_of (l := leB r.epoch 4) (by rw [sector_list,show 8 = 8 + 0 from rfl,drop_front _ _ _ _ (leB_len _ 8),List.drop_zero,take_front _ _ _ (leB_len _ 4)])]
  exact leN_leB _ 4 hf.epoch.1 (by have := hf.epoch.2;omega)
theorem sec_kind (hr : r.right = true) : (fld r.sector 12 1 : Int) = r.kind := by
  obtain ⟨_,_,hk,_⟩ := Rec.sizes hr
  rw [fld_of (l := [UInt8.ofNat r.kind.toNat]) (by rw [sec_drop12];rfl),byteN (by omega)];exact Int.toNat_of_nonneg (by omega)
theorem sec_idn (hr : r.right = true) : fld r.sector 13 1 = r.id.size := by
  obtain ⟨hi,_,_,_⟩ := Rec.sizes hr
  rw [fld_of (l := [UInt8.ofNat r.id.size]) (by rw [show 13 = 12 + 1 from rfl, ← List.drop_drop,sec_drop12];rfl),byteN (by omega)]
theorem sec_valn (hr : r.right = true) : fld r.sector 14 1 = r.val.size := by
  obtain ⟨_,hi,_,_⟩ := Rec.sizes hr
  rw [fld_of (l := [UInt8.ofNat r.val.size]) (by rw [show 14 = 12 + 2 from rfl, ← List.drop_drop,sec_drop12];rfl),byteN (by omega)]
theorem sec_ver (hf : r.Fits) : (fld r.sector 15 8 : Int) = r.ver := by
  rw [fld_of (l := leB r.ver 8) (by rw [sec_drop15,take_front _ _ _ (leB_len _ 8)])]
  exact leN_leB _ 8 hf.ver.1 (by have := hf.ver.2;omega)
theorem sec_dl (hf : r.Fits) : (fld r.sector 23 8 : Int) = r.dl := by
  rw [fld_of (l := leB r.dl 8) (by rw [show 23 = 15 + 8 from rfl, ← List.drop_drop,sec_drop15,List.drop_append,leB_len,List.drop_of_length_le (by rw [leB_len];omega)];exact take_front _ _ _ (leB_len _ 8))]
  exact leN_leB _ 8 hf.dl.1 (by have := hf.dl.2;omega)
theorem list_inj {a b : ByteArray} (h : a.data.toList = b.data.toList) : a = b := ByteArray.ext (Array.ext' h)
theorem extract_list (s : ByteArray) (p q : Nat) : (s.extract p q).data.toList = (s.data.toList.drop p).take (q - p) := by
  rw [ByteArray.data_extract,Array.toList_extract]
theorem sec_id : r.sector.extract 31 (31 + r.id.size) = r.id := by
  refine list_inj ?_
  rw [extract_list,sec_drop31,show 31 + r.id.size - 31 = r.id.size by omega,take_front _ _ _ (size_len _)]
theorem sec_val : r.sector.extract (31 + r.id.size) (31 + r.id.size + r.val.size) = r.val := by
  refine list_inj ?_
  rw [extract_list, ← List.drop_drop,sec_drop31,show 31 + r.id.size + r.val.size - (31 + r.id.size) = r.val.size by omega, ← Nat.add_zero r.id.size,drop_front _ _ _ _ (size_len _),List.drop_zero,take_front _ _ _ (size_len _)]
theorem cand_sector (hr : r.right = true) (hf : r.Fits) : cand r.sector = r := by
  obtain ⟨h1,h2,_,_⟩ := Rec.sizes hr
  have e1 : min (fld r.sector 13 1) 97 = r.id.size := by rw [sec_idn r hr];omega
  have e2 : min (fld r.sector 14 1) (97 - r.id.size) = r.val.size := by rw [sec_valn r hr];omega
  unfold cand
  simp only [e1,e2]
  rw [sec_lsn r hf,sec_epoch r hf,sec_kind r hr,sec_ver r hf,sec_dl r hf,sec_id,sec_val]
theorem decR_sector (hr : r.right = true) (hf : r.Fits) : decR r.sector = some r := by
  unfold decR
  rw [cand_sector r hr hf,if_pos ⟨Rec.sector_size hr,hr,rfl⟩]
end
end Go.Proofs.YtidacaihmjdmkaaGreat
namespace Go.Proofs.YtidacaihmjdmkaaGreat
open Go.RowKit
structure Thing where
  is : World → (Nat → Prop) → Prop
  keep : ∀ {w w' : World} {S T : Nat → Prop},is w S → Fr T w w' → (∀ k,S k → ¬ T k) → is w' S
  lt : ∀ {w : World} {S : Nat → Prop} {k : Nat},is w S → S k → k < w.heap.size
def Thing.none_ : Thing := ⟨fun _ S => ∀ k,¬ S k,fun h _ _ => h,fun h hk => absurd hk (h _)⟩
def Thing.star (O P : Thing) : Thing where
  is w S := ∃ S1 S2,O.is w S1 ∧ P.is w S2 ∧ (∀ k,S1 k → ¬ S2 k) ∧ ∀ k,S k ↔ S1 k ∨ S2 k
  keep := by
    rintro w w' S T ⟨S1,S2,h1,h2,hd,hS⟩ hF hn
    exact ⟨S1,S2,O.keep h1 hF (fun k hk => hn k ((hS k).2 (.inl hk))),P.keep h2 hF (fun k hk => hn k ((hS k).2 (.inr hk))),hd,hS⟩
  lt := by
    rintro w S k ⟨S1,S2,h1,h2,hd,hS⟩ hk
    rcases (hS k).1 hk with h | h
    · exact O.lt h1 h
    · exact P.lt h2 h
def Thing.all : List Thing → Thing
  | [] => Thing.none_
  | O :: L => O.star (Thing.all L)
def Thing.ex {α : Type} (F : α → Thing) : Thing where
  is w S := ∃ a,(F a).is w S
  keep := by
    rintro w w' S T ⟨a,h⟩ hF hn
    exact ⟨a,(F a).keep h hF hn⟩
  lt := by
    rintro w S k ⟨a,h⟩ hk
    exact (F a).lt h hk
def Thing.cells (g : Nat) (t : TypeId) (cs : Array Value) : Thing where
  is w S := Blk w g t cs ∧ ∀ k,S k ↔ k = g
  keep := by
    rintro w w' S T ⟨h,hS⟩ hF hn
    exact ⟨hF.blk h (hn g ((hS g).2 rfl)),hS⟩
  lt := by
    rintro w S k ⟨h,hS⟩ hk
    rw [(hS k).1 hk];exact h.lt
def Thing.row (t : TypeId) (size : Nat) (v : Value) (n : Nat) (xs : List Value) : Thing where
  is w S := w.ownsRow 0 t size v n xs ∧ ∀ k,S k ↔ v.ownBlock = some k
  keep := by
    rintro w w' S T ⟨h,hS⟩ hF hn
    exact ⟨hF.own h (fun k hk => hn k ((hS k).2 hk)),hS⟩
  lt := by
    rintro w S k ⟨h,hS⟩ hk
    exact (h.lt k ((hS k).1 hk)).2
theorem Thing.all_at (pre post : List Thing) (O : Thing) (w : World) (S : Nat → Prop) :
    (Thing.all (pre ++ O :: post)).is w S ↔ ∃ S1 S2,O.is w S1 ∧ (Thing.all (pre ++ post)).is w S2 ∧ (∀ k,S1 k → ¬ S2 k) ∧ ∀ k,S k ↔ S1 k ∨ S2 k := by
  induction pre generalizing S with
  | nil => exact Iff.rfl
  | cons P pre ih =>
    constructor
    · rintro ⟨A,R,hA,hR,hd,hS⟩
      obtain ⟨S1,S2,h1,h2,hd2,hS2⟩ := (ih R).1 hR
      refine ⟨S1,fun k => A k ∨ S2 k,h1,⟨A,S2,hA,h2,fun k ha h2 => hd k ha ((hS2 k).2 (.inr h2)),fun k => Iff.rfl⟩,fun k h1 hk => ?_,fun k => ?_⟩
      · rcases hk with hk | hk
        · exact hd k hk ((hS2 k).2 (.inl h1))
        · exact hd2 k h1 hk
      · rw [hS k,hS2 k]
        constructor
        · rintro (h | h | h)
          · exact .inr (.inl h)
          · exact .inl h
          · exact .inr (.inr h)
        · rintro (h | h | h)
          · exact .inr (.inl h)
          · exact .inl h
          · exact .inr (.inr h)
    · rintro ⟨S1,R,h1,⟨A,S2,hA,h2,hd2,hR⟩,hd,hS⟩
      refine ⟨A,fun k => S1 k ∨ S2 k,hA,(ih _).2 ⟨S1,S2,h1,h2,fun k h1 h2 => hd k h1 ((hR k).2 (.inr h2)),fun k => Iff.rfl⟩,fun k ha hk => ?_,fun k => ?_⟩
      · rcases hk with hk | hk
        · exact hd k hk ((hR k).2 (.inl ha))
        · exact hd2 k ha hk
      · rw [hS k,hR k]
        constructor
        · rintro (h | h | h)
          · exact .inr (.inl h)
          · exact .inl h
          · exact .inr (.inr h)
        · rintro (h | h | h)
          · exact .inr (.inl h)
          · exact .inl h
          · exact .inr (.inr h)
theorem Thing.all_app (L M : List Thing) (w : World) (S : Nat → Prop) :
    (Thing.all (L ++ M)).is w S ↔ ∃ S1 S2,(Thing.all L).is w S1 ∧ (Thing.all M).is w S2 ∧ (∀ k,S1 k → ¬ S2 k) ∧ ∀ k,S k ↔ S1 k ∨ S2 k := by
  induction L generalizing S with
  | nil =>
    constructor
    · intro h
      exact ⟨fun _ => False,S,fun _ h => h,h,fun _ h => h.elim,fun k => ⟨.inr,fun h => h.elim False.elim id⟩⟩
    · rintro ⟨S1,S2,h1,h2,hd,hS⟩
      have e : S = S2 := by
        funext k
        exact propext ((hS k).trans ⟨fun h => h.elim (fun h => absurd h (h1 k)) id, .inr⟩)
      rw [e];exact h2
  | cons P L ih =>
    constructor
    · rintro ⟨A,R,hA,hR,hd,hS⟩
      obtain ⟨S1,S2,h1,h2,hd2,hS2⟩ := (ih R).1 hR
      refine ⟨fun k => A k ∨ S1 k,S2,⟨A,S1,hA,h1,fun k ha h1 => hd k ha ((hS2 k).2 (.inl h1)),fun k => Iff.rfl⟩,h2,fun k hk h2 => ?_,fun k => ?_⟩
      · rcases hk with hk | hk
        · exact hd k hk ((hS2 k).2 (.inr h2))
        · exact hd2 k hk h2
      · rw [hS k,hS2 k,or_assoc]
    · rintro ⟨R,S2,⟨A,S1,hA,h1,hd2,hR⟩,h2,hd,hS⟩
      refine ⟨A,fun k => S1 k ∨ S2 k,hA,(ih _).2 ⟨S1,S2,h1,h2,fun k h1 h2 => hd k ((hR k).2 (.inr h1)) h2,fun k => Iff.rfl⟩,fun k ha hk => ?_,fun k => ?_⟩
      · rcases hk with hk | hk
        · exact hd2 k ha hk
        · exact hd k ((hR k).2 (.inl ha)) hk
      · rw [hS k,hR k,or_assoc]
def Now (S0 : Nat → Prop) (w0 w : World) (L : List Thing) : Prop := ∃ S,(Thing.all L).is w S ∧ Fr S0 w0 w ∧ ∀ k,S k → S0 k ∨ w0.heap.size ≤ k
abbrev Sep (W w : World) (L : List Thing) : Prop := Now (fun _ => False) W w L
section
variable {B : Nat} {w0 w w' : World} {L M pre post : List Thing} {O O' P : Thing} {S S' S0 : Nat → Prop}
theorem Now.start {S : Nat → Prop} {L : List Thing} (h : (Thing.all L).is w S) : Now S w w L := ⟨S,h,Fr.refl _ _,fun _ h => .inl h⟩
theorem Now.start1 (h : O.is w S) : Now S w w [O] := ⟨S,⟨S,fun _ => False,h,fun _ h => h,fun _ _ h => h,fun _ => ⟨.inl,fun h => h.elim id False.elim⟩⟩,Fr.refl _ _,fun _ h => .inl h⟩
theorem Sep.start (W : World) : Sep W W [] := ⟨fun _ => False,fun _ h => h,Fr.refl _ _,fun _ h => h.elim⟩
theorem Now.fr (h : Now S0 w0 w L) : Fr S0 w0 w := by obtain ⟨_,_,h,_⟩ := h;exact h
theorem Sep.base (h : Sep w0 w L) : Below w0.heap.size w0 w := h.fr.below (Nat.le_refl _) (fun _ _ h => h.elim)
theorem Now.size (h : Now S0 w0 w L) : w0.heap.size ≤ w.heap.size := h.fr.size
theorem Now.one (h : Now S0 w0 w [O]) : ∃ S,O.is w S ∧ ∀ k,S k → S0 k ∨ w0.heap.size ≤ k := by
  obtain ⟨S,⟨S1,S2,h1,h2,hd,hS⟩,hF,hk⟩ := h
  exact ⟨S1,h1,fun k h => hk k ((hS k).2 (.inl h))⟩
theorem Now.below (h : Now S0 w0 w L) (hb : Below w.heap.size w w') : Now S0 w0 w' L := by
  obtain ⟨S,h1,h2,h3⟩ := h
  have hf : Fr (fun k => w.heap.size ≤ k) w w' := Fr.of_below hb
  exact ⟨S,(Thing.all L).keep h1 hf (fun k hk hn => by have := (Thing.all L).lt h1 hk;omega),h2.trans hf (fun k hk hn => by have := h2.size;omega),h3⟩
theorem Now.drew (h : Now S0 w0 w L) : Now S0 w0 w.drew L := h.below ⟨rfl,rfl,rfl,Nat.le_refl _,fun _ _ => rfl⟩
theorem Now.alloc (h : Now S0 w0 w L) (o : Obj) : Now S0 w0 (w.alloc o) L := h.below ((Below.refl _ _).alloc (Nat.le_refl _) o)
theorem Now.at_ (h : Now S0 w0 w (pre ++ O :: post)) : ∃ S,O.is w S ∧ (∀ k,S k → S0 k ∨ w0.heap.size ≤ k) ∧ ∀ w' M,Now S w w' M → Now S0 w0 w' (pre ++ (M ++ post)) := by
  obtain ⟨S,h1,h2,h3⟩ := h
  obtain ⟨S1,S2,ho,hr,hd,hS⟩ := (Thing.all_at pre post O w S).1 h1
  refine ⟨S1,ho,fun k hk => h3 k ((hS k).2 (.inl hk)),fun w' M hN => ?_⟩
  obtain ⟨S',hM,hF,hn⟩ := hN
  obtain ⟨A,C,hA,hC,hAC,hS2⟩ := (Thing.all_app pre post w S2).1 hr
  have hd2 : ∀ k,S' k → ¬ S2 k := fun k hk h2 => by
    rcases hn k hk with h | h
    · exact hd k h h2
    · have := (Thing.all _).lt hr h2;omega
  refine ⟨fun k => A k ∨ S' k ∨ C k,(Thing.all_app pre (M ++ post) w' _).2 ⟨A,fun k => S' k ∨ C k,(Thing.all pre).keep hA hF (fun k ha h1 => hd k h1 ((hS2 k).2 (.inl ha))),(Thing.all_app M post w' _).2 ⟨S',C,hM,(Thing.all post).keep hC hF (fun k hc h1 => hd k h1 ((hS2 k).2 (.inr hc))),fun k hk hc => hd2 k hk ((hS2 k).2 (.inr hc)),fun _ => Iff.rfl⟩,fun k ha hk => ?_,fun _ => Iff.rfl⟩,?_,fun k hk => ?_⟩
  · rcases hk with hk | hk
    · exact hd2 k hk ((hS2 k).2 (.inl ha))
    · exact hAC k ha hk
  · exact h2.trans hF (fun k hk h1 => by
      rcases h3 k ((hS k).2 (.inl h1)) with h | h
      · exact h
      · omega)
  · rcases hk with hk | hk | hk
    · exact h3 k ((hS k).2 (.inr ((hS2 k).2 (.inl hk))))
    · rcases hn k hk with h | h
      · exact h3 k ((hS k).2 (.inl h))
      · exact .inr (Nat.le_trans h2.size h)
    · exact h3 k ((hS k).2 (.inr ((hS2 k).2 (.inr hk))))
theorem Now.get (h : Now S0 w0 w (pre ++ O :: post)) : ∃ S,O.is w S := by
  obtain ⟨S,h1,_⟩ := h.at_
  exact ⟨S,h1⟩
theorem Now.drop (h : Now S0 w0 w (pre ++ O :: post)) : Now S0 w0 w (pre ++ post) := by
  obtain ⟨S,h1,h2,h3⟩ := h
  obtain ⟨S1,S2,ho,hr,hd,hS⟩ := (Thing.all_at pre post O w S).1 h1
  exact ⟨S2,hr,h2,fun k hk => h3 k ((hS k).2 (.inr hk))⟩
theorem Now.imp (h : Now S0 w0 w (pre ++ O :: post)) (hi : ∀ S,O.is w S → (Thing.all M).is w S) : Now S0 w0 w (pre ++ (M ++ post)) := by
  obtain ⟨S,h1,_,h2⟩ := h.at_
  exact h2 w M ⟨S,hi S h1,Fr.refl _ _,fun _ h => .inl h⟩
theorem Now.push (h : Now S0 w0 w L) (hb : Below w.heap.size w w') (ho : O.is w' S') (hn : ∀ k,S' k → w.heap.size ≤ k) : Now S0 w0 w' (O :: L) := by
  obtain ⟨S,h1,h2,h3⟩ := h
  have hf : Fr (fun k => w.heap.size ≤ k) w w' := Fr.of_below hb
  refine ⟨fun k => S' k ∨ S k,⟨S',S,ho,(Thing.all L).keep h1 hf (fun k hk hn => by have := (Thing.all L).lt h1 hk;omega),fun k hk hS => ?_,fun k => Iff.rfl⟩,h2.trans hf (fun k hk hn => by have := h2.size;omega),fun k hk => ?_⟩
  · have := (Thing.all L).lt h1 hS
    have := hn k hk
    omega
  · rcases hk with hk | hk
    · exact .inr (Nat.le_trans h2.size (hn k hk))
    · exact h3 k hk
theorem Now.pushCells (h : Now S0 w0 w L) (t : TypeId) (cs : Array Value) : Now S0 w0 (w.alloc (.cells cs t)) (Thing.cells w.heap.size t cs :: L) :=
  h.push ((Below.refl _ _).alloc (Nat.le_refl _) _) (S' := fun k => k = w.heap.size) ⟨Blk.new w t cs,fun _ => Iff.rfl⟩ (fun k hk => Nat.le_of_eq hk.symm)
theorem Now.pushAll (h : Now S0 w0 w L) (hN : Now (fun _ => False) w w' M) : Now S0 w0 w' (M ++ L) := by
  obtain ⟨S,h1,h2,h3⟩ := h
  obtain ⟨S',hM,hF,hn⟩ := hN
  have hge : ∀ k,S' k → w.heap.size ≤ k := fun k hk => (hn k hk).resolve_left id
  refine ⟨fun k => S' k ∨ S k,(Thing.all_app M L w' _).2 ⟨S',S,hM,(Thing.all L).keep h1 hF (fun _ _ h => h),fun k hk hS => by have := (Thing.all L).lt h1 hS;have := hge k hk;omega,fun _ => Iff.rfl⟩,h2.trans hF (fun _ _ h => h.elim),fun k hk => ?_⟩
  rcases hk with hk | hk
  · exact .inr (Nat.le_trans h2.size (hge k hk))
  · exact h3 k hk
theorem Now.pushRow (h : Now S0 w0 w L) (t : TypeId) (xs : Array Value) (hm : xs.size ≤ maxLen) : Now S0 w0 (w.alloc (.cells xs t)) (Thing.row t 1 (.slice (some ⟨w.heap.size,0,none⟩) xs.size xs.size) xs.size xs.toList :: L) :=
  h.push ((Below.refl _ _).alloc (Nat.le_refl _) _) (S' := fun k => k = w.heap.size) ⟨World.ownsRow_lit (e := t) (base := 0) (size := 1) w xs xs.size (Nat.zero_le _) hm (by omega),fun k => by simp [Value.ownBlock,eq_comm]⟩ (fun k hk => Nat.le_of_eq hk.symm)
theorem Now.pushNil (h : Now S0 w0 w L) (t : TypeId) (size : Nat) : Now S0 w0 w (Thing.row t size (.slice none 0 0) 0 [] :: L) :=
  h.push (Below.refl _ _) (S' := fun _ => False) ⟨World.ownsRow_nil ..,fun k => by simp [Value.ownBlock]⟩ (fun k hk => hk.elim)
theorem Now.swap (h : Now S0 w0 w (O :: P :: L)) : Now S0 w0 w (P :: O :: L) := by
  obtain ⟨S,h1,h2⟩ := h
  exact ⟨S,(Thing.all_at [P] L O w S).2 ((Thing.all_at [] (P :: L) O w S).1 h1),h2⟩
theorem Now.front (h : Now S0 w0 w (pre ++ O :: post)) : Now S0 w0 w (O :: (pre ++ post)) := by
  obtain ⟨S,h1,h2⟩ := h
  exact ⟨S,(Thing.all_at [] (pre ++ post) O w S).2 ((Thing.all_at pre post O w S).1 h1),h2⟩
theorem Now.back (h : Now S0 w0 w (O :: (pre ++ post))) : Now S0 w0 w (pre ++ O :: post) := by
  obtain ⟨S,h1,h2⟩ := h
  exact ⟨S,(Thing.all_at pre post O w S).2 ((Thing.all_at [] (pre ++ post) O w S).1 h1),h2⟩
theorem Thing.all_perm {L M : List Thing} (hp : L.Perm M) : ∀ (w : World) (S : Nat → Prop),(Thing.all L).is w S → (Thing.all M).is w S := by
  induction hp with
  | nil => exact fun _ _ h => h
  | cons O _ ih => rintro w S ⟨S1,S2,h1,h2,r⟩;exact ⟨S1,S2,h1,ih w S2 h2,r⟩
  | swap O P L => exact fun w S h => (Thing.all_at [O] L P w S).2 ((Thing.all_at [] (O :: L) P w S).1 h)
  | trans _ _ ih1 ih2 => exact fun w S h => ih2 w S (ih1 w S h)
theorem Now.perm (h : Now S0 w0 w L) (hp : L.Perm M) : Now S0 w0 w M := by
  obtain ⟨S,h1,h2⟩ := h
  exact ⟨S,Thing.all_perm hp w S h1,h2⟩
theorem Now.blk {g : Nat} {t : TypeId} {cs : Array Value} (h : Now S0 w0 w (pre ++ Thing.cells g t cs :: post)) : Blk w g t cs := by
  obtain ⟨S,h1,_⟩ := h.at_
  exact h1.1
theorem Now.row {t : TypeId} {size n : Nat} {v : Value} {xs : List Value} (h : Now S0 w0 w (pre ++ Thing.row t size v n xs :: post)) : w.ownsRow 0 t size v n xs := by
  obtain ⟨S,h1,_⟩ := h.at_
  exact h1.1
theorem Now.set_ {g : Nat} {t : TypeId} {cs : Array Value} (h : Now S0 w0 w (pre ++ Thing.cells g t cs :: post)) (i : Nat) (u : Value) : Now S0 w0 (w.setCell ⟨g,i,none⟩ u) (pre ++ Thing.cells g t (cs.setIfInBounds i u) :: post) := by
  obtain ⟨S,h1,_,h2⟩ := h.at_
  exact h2 _ [Thing.cells g t (cs.setIfInBounds i u)] ⟨S,⟨S,fun _ => False,⟨h1.1.set_ i u,h1.2⟩,fun _ h => h,fun _ _ h => h,fun _ => ⟨.inl,fun h => h.elim id False.elim⟩⟩,(Fr.refl _ w).setCell (fun _ => (h1.2 g).2 rfl) u,fun _ h => .inl h⟩
theorem Now.grown {t t' : TypeId} {size n n' : Nat} {v v' : Value} {xs xs' : List Value} (h : Now S0 w0 w (pre ++ Thing.row t size v n xs :: post)) (ho : w'.ownsRow 0 t' size v' n' xs') (hg : w.grownBy w' v.ownBlock) (hn : v'.ownBlock = v.ownBlock ∨ ∃ q,w.heap.size ≤ q ∧ v'.ownBlock = some q) :
    Now S0 w0 w' (pre ++ Thing.row t' size v' n' xs' :: post) := by
  obtain ⟨S,h1,_,h2⟩ := h.at_
  refine h2 _ [Thing.row t' size v' n' xs'] ⟨fun k => v'.ownBlock = some k,⟨fun k => v'.ownBlock = some k,fun _ => False,⟨ho,fun _ => Iff.rfl⟩,fun _ h => h,fun _ _ h => h,fun _ => ⟨.inl,fun h => h.elim id False.elim⟩⟩,Fr.of_grown hg (fun k e => (h1.2 k).2 e),fun k hk => ?_⟩
  rcases hn with e | ⟨q,hq,e⟩
  · exact .inl ((h1.2 k).2 (e ▸ hk))
  · rw [e] at hk
    obtain rfl := Option.some.inj hk
    exact .inr hq
theorem Now.rowNil {t t' : TypeId} {size size' n : Nat} {v : Value} {xs : List Value} (h : Now S0 w0 w (pre ++ Thing.row t size v n xs :: post)) : Now S0 w0 w (pre ++ Thing.row t' size' (.slice none 0 0) 0 [] :: post) := by
  obtain ⟨S,h1,_,h2⟩ := h.at_
  exact h2 _ [Thing.row t' size' (.slice none 0 0) 0 []] ⟨fun _ => False,⟨fun _ => False,fun _ => False,⟨World.ownsRow_nil ..,fun k => by simp [Value.ownBlock]⟩,fun _ h => h,fun _ _ h => h,fun _ => ⟨.inl,fun h => h.elim id id⟩⟩,Fr.refl _ _,fun _ h => h.elim⟩
theorem Now.rowSet {t : TypeId} {n c r : Nat} {xs : List Value} (h : Now S0 w0 w (pre ++ Thing.row t 1 (.slice (some ⟨r,0,none⟩) n c) n xs :: post)) {q : Nat} (hq : q < n) (u : Value) :
    Now S0 w0 (w.setCell ⟨r,q,none⟩ u) (pre ++ Thing.row t 1 (.slice (some ⟨r,0,none⟩) n c) n (xs.set q u) :: post) := by
  obtain ⟨S,h1,_,h2⟩ := h.at_
  have hr : w.ownsRow 0 t 1 (.slice (some ⟨r,0,none⟩) n c) n xs := h1.1
  refine h2 _ [Thing.row t 1 (.slice (some ⟨r,0,none⟩) n c) n (xs.set q u)] ⟨S,⟨S,fun _ => False,⟨?_,h1.2⟩,fun _ h => h,fun _ _ h => h,fun _ => ⟨.inl,fun h => h.elim id False.elim⟩⟩,(Fr.refl _ w).setCell (fun _ => (h1.2 r).2 rfl) u,fun _ h => .inl h⟩
  refine ⟨by rw [List.length_set];exact hr.1,?_⟩
  rcases hr.2 with ⟨h1,_⟩ | ⟨g,cap,cur,hv,hg,hh,hle,hm,hs,hx⟩
  · cases h1
  · simp only [Value.slice.injEq,Option.some.injEq,Addr.mk.injEq,and_true,true_and] at hv
    obtain ⟨rfl,rfl⟩ := hv
    have hb : Blk w r t cur := hh
    refine .inr ⟨r,c,cur.setIfInBounds q u,rfl,hg,hb.set_ q u,hle,hm,by simpa using hs,?_⟩
    rw [← hx,Nat.mul_one]
    apply List.ext_getElem?
    intro j
    simp only [List.getElem?_take,List.getElem?_set,Array.getElem?_toList,Array.getElem?_setIfInBounds,List.length_take,Array.length_toList]
    by_cases hj : j < n
    · rw [if_pos hj,if_pos hj]
      by_cases e : q = j
      · rw [if_pos e,if_pos e,if_pos (by omega),if_pos (by omega)]
      · rw [if_neg e,if_neg e]
    · rw [if_neg hj,if_neg hj]
      rw [if_neg (by omega)]
theorem row_at {t : TypeId} {n c r : Nat} {xs : List Value} (h : w.ownsRow 0 t 1 (.slice (some ⟨r,0,none⟩) n c) n xs) {q : Nat} (hq : q < n) : w.cell? ⟨r,q,none⟩ = xs[q]? ∧ w.frozen? ⟨r,q,none⟩ = false := by
  rcases h.2 with ⟨h1,_⟩ | ⟨g,cap,cur,hv,hg,hh,hle,hm,hs,hx⟩
  · cases h1
  · simp only [Value.slice.injEq,Option.some.injEq,Addr.mk.injEq,and_true,true_and] at hv
    obtain ⟨rfl,_⟩ := hv
    have hb : Blk w r t cur := hh
    refine ⟨?_,hb.frozen q⟩
    rw [hb.cell, ← hx,List.getElem?_take,if_pos (by omega)]
    simp
theorem row_form {t : TypeId} {size n : Nat} {v : Value} {xs : List Value} (h : w.ownsRow 0 t size v n xs) (hn : 0 < n) : ∃ r c cur,v = .slice (some ⟨r,0,none⟩) n c ∧ Blk w r t cur ∧ n * size ≤ cur.size ∧ cur.toList.take (n * size) = xs := by
  rcases h.2 with ⟨_,h0⟩ | ⟨g,cap,cur,hv,_,hh,hle,_,hs,hx⟩
  · omega
  · exact ⟨g,cap,cur,hv,hh,by rw [hs];exact Nat.mul_le_mul_right size hle,hx⟩
end
theorem wpList_app1s {P : Program} (w : World) {ops : Array Oper} {rest : List Oper} {o : Oper} {a : Act} {Q : Exit → Act → World → Prop} (hgd : o.guard = none) (s x : Operand) (t : TypeId)
    (ho : o.op = .call { callee := .builtin .append,args := #[s,x],argTypes := #[t,t] })
    (base : Nat) (e : TypeId) {i : TypeInfo} {z : Value} {bytes : Nat} (ht : P.underlying t = some (.slice e)) (hi : P.info? e = some i) (hz : i.zero = some z)
    (hsize : i.size = 1) (hby : i.bytes = bytes) (hzs : z.cells.size = 1)
    {v : Value} {n : Nat} {xs : List Value} {u : Value} (hown : w.ownsRow base e 1 v n xs) (hs : a.eval s = v) {H : Nat} (hH : w.heap.size = H) (hx : a.eval x = .slice (some ⟨H,0,none⟩) 1 1) (h1 : u.oneCell' = true)
    (h63 : n + 1 ≤ maxLen) (hbytes : (n + 1) * bytes ≤ 140737488355328) (hbase : base ≤ w.heap.size)
    (h : ∀ v' w',w'.ownsRow base e 1 v' (n + 1) (xs ++ [u]) → w.grownBy w' v.ownBlock → (v'.ownBlock = v.ownBlock ∨ v'.ownBlock = some (w.heap.size + 1)) → wpList P ops Q rest (a.put o.dst v') w') : wpList P ops Q (o :: rest) a (w.alloc (.cells #[u] e)) :=
  wpList_app1 w hgd s x t ho base e ht hi hz hsize hby hzs hown hs (by rw [hH];exact hx) h1 h63 hbytes hbase h
def Loc (P : Program) (f : Nat) (args : Array Value) (O : Thing) (r : Value) (O' : Thing) : Prop :=
  ∀ w S,O.is w S → Calls P f args w fun e w' => e = .returned r ∧ Now S w w' [O']
theorem Loc.at_ {P : Program} {f : Nat} {args : Array Value} {O O' : Thing} {r : Value} (hl : Loc P f args O r O') {S0 : Nat → Prop} {w0 w : World} (pre post : List Thing) (h : Now S0 w0 w (pre ++ O :: post)) :
    Calls P f args w fun e w' => e = .returned r ∧ Now S0 w0 w' (pre ++ O' :: post) := by
  obtain ⟨S,h1,_,h2⟩ := h.at_
  exact (hl w S h1).mono fun e w' ⟨he,h3⟩ => ⟨he,h2 w' [O'] h3⟩
end Go.Proofs.YtidacaihmjdmkaaGreat
