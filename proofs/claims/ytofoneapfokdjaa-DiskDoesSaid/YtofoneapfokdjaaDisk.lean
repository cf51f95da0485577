/- The disk of package disk as a plain thing, how it lies in memory, and the contracts of its methods. -/
import Derived.Test.YtofoneapfokdjaaProg
import Derived.Test.YtofoneapfokdjaaMaps
import Derived.Test.YtofoneapfokdjaaShelf
import Derived.WalkKit
import Derived.Lib.Hide
import Derived.WalkLawsBesides
import Derived.WalkSpells
import Derived.Deep.QuietTactic
import Derived.BigQuiet
import Derived.StillTailTactics
import Derived.Deep.RegionHeld3
namespace Go.Proofs.Ytofoneapfokdjaa
set_option linter.unusedSimpArgs false
set_option linter.unusedVariables false
open Go.RowKit
attribute [local go_sem high] run_mx run_mn

/-- A disk: whether it is limited, and to how many; its sectors' number; what they hold; what is pending. -/
structure Dsk where
  lim : Bool
  left : Int
  n : Int
  held : Int → Option ByteArray
  pend : List (Int × ByteArray)

def writeCells (p : Int × ByteArray) : List Value := [.int .i64 p.1, .string p.2]
def heldMap (held : Int → Option ByteArray) (k : Int) : Option Value := (held k).map fun s => .agg #[.int .i64 k, .string s]

/-- The disk d lies at block g, its map at b, its pending writes are the slice v. -/
structure DskAt (w : World) (g b : Nat) (v : Value) (d : Dsk) : Prop where
  blk : Blk w g 63 #[.bool d.lim, .int .i64 d.left, .int .i64 d.n, .map (some b), v]
  map : IMap w b (heldMap d.held)
  row : w.ownsRow 0 66 2 v d.pend.length (d.pend.flatMap writeCells)
  gv : v.ownBlock ≠ some g
  gb : g ≠ b
  bv : v.ownBlock ≠ some b

/-- The blocks in which a disk lies. -/
def foot (g b : Nat) (v : Value) (k : Nat) : Prop := k = g ∨ k = b ∨ v.ownBlock = some k

section
variable {w w' : World} {g b : Nat} {v : Value} {d : Dsk} {S : Nat → Prop}
theorem DskAt.cells (h : DskAt w g b v d) : (w.cell? ⟨g, 0, none⟩ = some (.bool d.lim) ∧ w.cell? ⟨g, 1, none⟩ = some (.int .i64 d.left) ∧ w.cell? ⟨g, 2, none⟩ = some (.int .i64 d.n) ∧ w.cell? ⟨g, 3, none⟩ = some (.map (some b)) ∧ w.cell? ⟨g, 4, none⟩ = some v) := by
  refine ⟨?_, ?_, ?_, ?_, ?_⟩ <;> (rw [h.blk.cell]; rfl)
theorem DskAt.free (h : DskAt w g b v d) (i : Nat) : w.frozen? ⟨g, i, none⟩ = false := h.blk.frozen i
theorem DskAt.lt (h : DskAt w g b v d) {k : Nat} (hk : foot g b v k) : k < w.heap.size := by
  rcases hk with rfl | rfl | hk
  · exact h.blk.lt
  · exact h.map.lt
  · exact (h.row.lt k hk).2
theorem DskAt.keep (h : DskAt w g b v d) (hf : Fr S w w') (hn : ∀ k, foot g b v k → ¬ S k) : DskAt w' g b v d :=
  ⟨hf.blk h.blk (hn g (.inl rfl)), h.map.fr hf (hn b (.inr (.inl rfl))), hf.own h.row fun k hk => hn k (.inr (.inr hk)), h.gv, h.gb, h.bv⟩
theorem DskAt.drew (h : DskAt w g b v d) : DskAt w.drew g b v d := ⟨h.blk, h.map, h.row, h.gv, h.gb, h.bv⟩
theorem DskAt.alloc (h : DskAt w g b v d) (o : Obj) : DskAt (w.alloc o) g b v d := h.keep (S := fun _ => False) ((Fr.refl _ w).alloc o) (fun _ _ h => h)
theorem DskAt.below (h : DskAt w g b v d) (hb : Below w.heap.size w w') : DskAt w' g b v d := h.keep (S := fun k => w.heap.size ≤ k) (Fr.of_below hb) (fun k hk hn => by have := h.lt hk; omega)
end

/-- A store into a field of the disk's own block. -/
theorem DskAt.set {w : World} {g b : Nat} {v : Value} {d d' : Dsk} (h : DskAt w g b v d) (i : Nat) (u : Value) (hi : (#[.bool d.lim, .int .i64 d.left, .int .i64 d.n, .map (some b), v] : Array Value).setIfInBounds i u = #[.bool d'.lim, .int .i64 d'.left, .int .i64 d'.n, .map (some b), v]) (hh : d'.held = d.held) (hp : d'.pend = d.pend) :
    DskAt (w.setCell ⟨g, i, none⟩ u) g b v d' := by
  refine ⟨hi ▸ h.blk.set_ i u, by rw [hh]; exact h.map.setCell (fun e => h.gb e.symm) u, ?_, h.gv, h.gb, h.bv⟩
  rw [hp]
  exact Fr.own (S := fun k => k = g) ((Fr.refl (fun k => k = g) w).setCell (p := ⟨g, i, none⟩) (fun _ => rfl) u) h.row (fun k hk e => h.gv (by rw [hk, e]))

theorem run_makeMap_i (w : World) : (Instr.makeMap 58 none).run Try.prog w = .ok (.map (some w.heap.size)) (w.alloc (.map #[] 0)) := run_makeMap ..

theorem New_bad (n : Int) (w : World) (h : n < 1 ∨ 4096 < n) :
    Calls Try.prog 9 #[.int .i64 n] w fun e w' => e = .returned (.tuple #[.pointer none, .int .i64 1]) ∧ w = w' := by
  have hmm := @run_makeMap Try.prog
  by_cases h1 : n < 1
  · go_enter Try.func9, Try.ntmps9
    go_wp2
    go_ret2
    exact ⟨rfl, rfl⟩
  · have h2 : 4096 < n := by omega
    go_enter Try.func9, Try.ntmps9
    go_wp2
    go_ret2
    exact ⟨rfl, rfl⟩

def newDsk (n : Int) : Dsk := ⟨false, 0, n, fun _ => none, []⟩
theorem New_ok (n : Int) (w : World) (h : 1 ≤ n) (h' : n ≤ 4096) :
    Calls Try.prog 9 #[.int .i64 n] w fun e w' => e = .returned (.tuple #[.pointer (some ⟨w.heap.size + 1, 0, none⟩), .int .i64 0]) ∧ DskAt w' (w.heap.size + 1) w.heap.size (.slice none 0 0) (newDsk n) ∧ Below w.heap.size w w' := by
  have hmm := @run_makeMap Try.prog
  go_enter Try.func9, Try.ntmps9
  go_wp2
  go_ret2
  refine ⟨rfl, ⟨?_, (IMap.new w).alloc _, World.ownsRow_nil .., by simp [Value.ownBlock], by omega, by simp [Value.ownBlock]⟩, ((Below.refl _ _).alloc (Nat.le_refl _) _).alloc (by simp) _⟩
  simpa [newDsk] using Blk.new (w.alloc (.map #[] 0)) 63 #[.bool false, .int .i64 0, .int .i64 n, .map (some w.heap.size), .slice none 0 0]

theorem Len_any (g b : Nat) (v : Value) (d : Dsk) (w : World) (h : DskAt w g b v d) :
    Calls Try.prog 31 #[.pointer (some ⟨g, 0, none⟩)] w fun e w' => e = .returned (.int .i64 d.n) ∧ w = w' := by
  obtain ⟨c0, c1, c2, c3, c4⟩ := h.cells
  go_enter Try.func31, Try.ntmps31
  go_wp2
  go_ret
  exact ⟨rfl, rfl⟩

theorem Pending_any (g b : Nat) (v : Value) (d : Dsk) (w : World) (h : DskAt w g b v d) :
    Calls Try.prog 14 #[.pointer (some ⟨g, 0, none⟩)] w fun e w' => e = .returned (.int .i64 d.pend.length) ∧ w = w' := by
  obtain ⟨c0, c1, c2, c3, c4⟩ := h.cells
  obtain ⟨A, c, rfl, _⟩ := own_slice2 h.row
  go_enter Try.func14, Try.ntmps14
  go_wp2
  go_ret
  exact ⟨rfl, rfl⟩

theorem Limit_any (g b : Nat) (v : Value) (d : Dsk) (n : Int) (w : World) (h : DskAt w g b v d) :
    Calls Try.prog 18 #[.pointer (some ⟨g, 0, none⟩), .int .i64 n] w fun e w' => e = .returned (.tuple #[]) ∧ DskAt w' g b v { d with lim := true, left := n } ∧ Fr (foot g b v) w w' := by
  obtain ⟨c0, c1, c2, c3, c4⟩ := h.cells
  have f0 := h.free 0
  have f1 := h.free 1
  go_enter Try.func18, Try.ntmps18
  go_wp2
  go_end0
  exact ⟨rfl, (h.set (d' := { d with lim := true }) 0 _ rfl rfl rfl).set (d' := { d with lim := true, left := n }) 1 _ rfl rfl rfl, ((Fr.refl _ w).setCell (fun _ => .inl rfl) _).setCell (fun _ => .inl rfl) _⟩

theorem has_any (g b : Nat) (v : Value) (d : Dsk) (i : Int) (w : World) (h : DskAt w g b v d) :
    Calls Try.prog 25 #[.pointer (some ⟨g, 0, none⟩), .int .i64 i] w fun e w' => e = .returned (.bool (decide (0 ≤ i ∧ i < d.n))) ∧ w = w' := by
  obtain ⟨c0, c1, c2, c3, c4⟩ := h.cells
  by_cases h0 : 0 ≤ i
  · rw [show decide (0 ≤ i ∧ i < d.n) = decide (i < d.n) by simp [h0]]
    go_enter Try.func25, Try.ntmps25
    go_wp2
    go_ret
    exact ⟨rfl, rfl⟩
  · rw [show decide (0 ≤ i ∧ i < d.n) = false by simp [h0]]
    go_enter Try.func25, Try.ntmps25
    go_wp2
    go_ret
    exact ⟨rfl, rfl⟩

def Dsk.use (d : Dsk) : Dsk := { d with left := wrap64 (d.left - 1) }
theorem use_no (g b : Nat) (v : Value) (d : Dsk) (w : World) (h : DskAt w g b v d) (hl : d.lim = true) (hn : d.left < 1) :
    Calls Try.prog 26 #[.pointer (some ⟨g, 0, none⟩)] w fun e w' => e = .returned (.bool false) ∧ w = w' := by
  obtain ⟨c0, c1, c2, c3, c4⟩ := h.cells
  rw [hl] at c0
  clear hl
  go_enter Try.func26, Try.ntmps26
  go_wp2
  go_ret
  exact ⟨rfl, rfl⟩
theorem use_yes (g b : Nat) (v : Value) (d : Dsk) (w : World) (h : DskAt w g b v d) (hl : d.lim = false ∨ 1 ≤ d.left) :
    Calls Try.prog 26 #[.pointer (some ⟨g, 0, none⟩)] w fun e w' => e = .returned (.bool true) ∧ DskAt w' g b v d.use ∧ Fr (foot g b v) w w' := by
  obtain ⟨c0, c1, c2, c3, c4⟩ := h.cells
  have f1 := h.free 1
  have hfin : DskAt (w.setCell ⟨g, 1, none⟩ (.int .i64 (wrap64 (d.left - 1)))) g b v d.use ∧ Fr (foot g b v) w (w.setCell ⟨g, 1, none⟩ (.int .i64 (wrap64 (d.left - 1)))) :=
    ⟨h.set 1 _ rfl rfl rfl, (Fr.refl _ w).setCell (fun _ => .inl rfl) _⟩
  have H := Lib.hid hfin
  clear hfin h
  rcases Bool.eq_false_or_eq_true d.lim with hb | hb
  · have hl : 1 ≤ d.left := by rcases hl with h1 | h1; exact absurd (hb.symm.trans h1) (by simp); exact h1
    rw [hb] at c0
    clear hb
    go_enter Try.func26, Try.ntmps26
    go_wp2
    all_goals go_ret
    all_goals exact ⟨rfl, H.out⟩
  · rw [hb] at c0
    clear hb hl
    go_enter Try.func26, Try.ntmps26
    go_wp2
    all_goals go_ret
    all_goals exact ⟨rfl, H.out⟩

theorem infoWrite : (Try.prog.info? 66).map (fun i => (i.zero, i.size, i.bytes)) = some (some (.agg #[.int .i64 0, .string ByteArray.empty]), 2, 24) := by kernel_rfl

def Dsk.write (d : Dsk) (i : Int) (s : ByteArray) : Dsk := { d.use with pend := d.pend ++ [(i, s)] }
theorem Write_bad (g b : Nat) (v : Value) (d : Dsk) (i : Int) (s : ByteArray) (w : World) (h : DskAt w g b v d) (hi : ¬ (0 ≤ i ∧ i < d.n)) :
    Calls Try.prog 12 #[.pointer (some ⟨g, 0, none⟩), .int .i64 i, .string s] w fun e w' => e = .returned (.int .i64 1) ∧ w = w' := by
  have hd : decide (0 ≤ i ∧ i < d.n) = false := by simpa using hi
  clear hi
  go_enter Try.func12, Try.ntmps12
  go_wp2_with (go_at_call 25; refine (has_any g b v d i _ h).mono ?_; rw [hd]; rintro e w' ⟨rfl, rfl⟩)
  go_ret
  exact ⟨rfl, rfl⟩
theorem Write_form (g b : Nat) (v : Value) (d : Dsk) (i : Int) (s : ByteArray) (w : World) (h : DskAt w g b v d) (hi : 0 ≤ i ∧ i < d.n) (hs : s.size ≠ 128) :
    Calls Try.prog 12 #[.pointer (some ⟨g, 0, none⟩), .int .i64 i, .string s] w fun e w' => e = .returned (.int .i64 5) ∧ w = w' := by
  have hd : decide (0 ≤ i ∧ i < d.n) = true := by simpa using hi
  clear hi
  have hs2 : ¬ (s.size : Int) = 128 := by omega
  go_enter Try.func12, Try.ntmps12
  go_wp2_with (go_at_call 25; refine (has_any g b v d i _ h).mono ?_; rw [hd]; rintro e w' ⟨rfl, rfl⟩)
  go_ret
  exact ⟨rfl, rfl⟩
theorem Write_dead (g b : Nat) (v : Value) (d : Dsk) (i : Int) (s : ByteArray) (w : World) (h : DskAt w g b v d) (hi : 0 ≤ i ∧ i < d.n) (hs : s.size = 128) (hl : d.lim = true) (hn : d.left < 1) :
    Calls Try.prog 12 #[.pointer (some ⟨g, 0, none⟩), .int .i64 i, .string s] w fun e w' => e = .returned (.int .i64 9) ∧ w = w' := by
  have hd : decide (0 ≤ i ∧ i < d.n) = true := by simpa using hi
  clear hi
  have hu := use_no g b v d w h hl hn
  obtain ⟨c0, c1, c2, c3, c4⟩ := h.cells
  have hs1 : (s.size : Int) ≤ 128 := by omega
  have hs2 : (128 : Int) ≤ s.size := by omega
  clear hl hs
  go_enter Try.func12, Try.ntmps12
  go_wp2_with (first | (go_at_call 25; refine (has_any g b v d i _ h).mono ?_; rw [hd]; rintro e w' ⟨rfl, rfl⟩) | (go_at_call 26; refine hu.mono ?_; rintro e w' ⟨rfl, rfl⟩))
  go_ret
  exact ⟨rfl, rfl⟩
theorem DskAt.pushed {w w2 : World} {g b : Nat} {v v' : Value} {d : Dsk} {i : Int} {s : ByteArray} {o : Obj} (h : DskAt w g b v d) (hgrow : (w.alloc o).grownBy w2 v.ownBlock)
    (hown : w2.ownsRow 0 66 2 v' (d.pend.length + 1) (d.pend.flatMap writeCells ++ [.int .i64 i, .string s])) (hn : v'.ownBlock = v.ownBlock ∨ v'.ownBlock = some (w.alloc o).heap.size) :
    DskAt (w2.setCell ⟨g, 4, none⟩ v') g b v' { d with pend := d.pend ++ [(i, s)] } ∧ Fr (foot g b v) w (w2.setCell ⟨g, 4, none⟩ v') ∧ ∀ k, foot g b v' k → foot g b v k ∨ w.heap.size ≤ k := by
  have hg := h.blk.lt
  have hb := h.map.lt
  have hvg : v'.ownBlock ≠ some g := by
    rcases hn with hn | hn
    · rw [hn]; exact h.gv
    · rw [hn]; simp; omega
  have hvb : v'.ownBlock ≠ some b := by
    rcases hn with hn | hn
    · rw [hn]; exact h.bv
    · rw [hn]; simp; omega
  have hF : Fr (fun k => v.ownBlock = some k) w w2 := ((Fr.refl _ w).alloc o).trans (Fr.of_grown (S := fun k => v.ownBlock = some k) hgrow fun k e => e) (fun _ _ e => e)
  have hb2 := hF.blk h.blk h.gv
  refine ⟨⟨hb2.set_ 4 v', (h.map.fr hF h.bv).setCell (fun e => h.gb e.symm) _, ?_, hvg, h.gb, hvb⟩, ?_, fun k hk => ?_⟩
  · have := Fr.own (S := fun k => k = g) ((Fr.refl (fun k => k = g) w2).setCell (p := ⟨g, 4, none⟩) (fun _ => rfl) v') hown (fun k hk e => hvg (by rw [hk, e]))
    simpa [List.flatMap_append, writeCells] using this
  · exact (hF.mono (fun k _ e => .inr (.inr e))).setCell (fun _ => .inl rfl) _
  · rcases hk with rfl | rfl | hk
    · exact .inl (.inl rfl)
    · exact .inl (.inr (.inl rfl))
    · rcases hn with hn | hn
      · exact .inl (.inr (.inr (hn ▸ hk)))
      · rw [hn] at hk
        simp at hk
        exact .inr (by omega)

theorem Write_ok (g b : Nat) (v : Value) (d : Dsk) (i : Int) (s : ByteArray) (w : World) (h : DskAt w g b v d) (hi : 0 ≤ i ∧ i < d.n) (hs : s.size = 128) (hl : d.lim = false ∨ 1 ≤ d.left) (hp : d.pend.length ≤ 1000000000) :
    Calls Try.prog 12 #[.pointer (some ⟨g, 0, none⟩), .int .i64 i, .string s] w fun e w' => e = .returned (.int .i64 0) ∧
      ∃ v', DskAt w' g b v' (d.write i s) ∧ Fr (foot g b v) w w' ∧ ∀ k, foot g b v' k → foot g b v k ∨ w.heap.size ≤ k := by
  obtain ⟨i0, hi0, hz0, hz1, hz2⟩ := info_parts infoWrite
  have hd : decide (0 ≤ i ∧ i < d.n) = true := by simpa using hi
  clear hi
  have hu := use_yes g b v d w h hl
  obtain ⟨c0, c1, c2, c3, c4⟩ := h.cells
  have hs1 : (s.size : Int) ≤ 128 := by omega
  have hs2 : (128 : Int) ≤ s.size := by omega
  clear hl hs
  have hm1 : d.pend.length + 1 ≤ maxLen := by unfold maxLen; omega
  have hm2 : (d.pend.length + 1) * 24 ≤ 140737488355328 := by omega
  have hone : ∀ u ∈ [Value.int .i64 i, .string s], u.oneCell' = true := by simp [Value.oneCell']
  clear hp
  go_enter Try.func12, Try.ntmps12
  go_wp2_with (first | (go_at_call 25; refine (has_any g b v d i _ h).mono ?_; rw [hd]; rintro e w' ⟨rfl, rfl⟩) | (go_at_call 26; refine hu.mono ?_; rintro e w1 ⟨rfl, h1, hf1⟩; obtain ⟨e0, e1, e2, e3, e4⟩ := h1.cells; clear c0 c1 c2 c3 c4 hu) | (at_builtin; refine wpList_append_any _ rfl _ _ 61 rfl 0 66 i0 _ 2 24 Try.underlying61 hi0 hz0 hz1 hz2 rfl (by decide) v _ _ rfl (h1.row.alloc _) (w1.heap.size + 1) _ 1 1 [.int .i64 i, .string s] rfl (Blk.readsN (Blk.new w1 66 #[.int .i64 i, .string s]) (by omega) rfl) hone hm1 hm2 (by omega) ?_; intro v' w2 hown hgrow hn; obtain ⟨A', c', rfl, _⟩ := own_slice2 hown; have hfin := h1.pushed hgrow hown hn; have hb2 := (Fr.of_grown (S := fun k => v.ownBlock = some k) hgrow (fun k e => e)).blk (h1.alloc (.cells #[.int .i64 i, .string s] 66)).blk h1.gv; have c4 : w2.cell? ⟨g, 4, none⟩ = some v := hb2.cell 4; have f4 := hb2.frozen 4))
  go_ret
  exact ⟨rfl, _, hfin.1, hf1.trans hfin.2.1 (fun _ _ e => e), fun k hk => (hfin.2.2 k hk).imp id fun h => Nat.le_trans hf1.size h⟩

def upd (held : Int → Option ByteArray) (i : Int) (s : ByteArray) : Int → Option ByteArray := fun k => if k = i then some s else held k
theorem heldMap_upd (held : Int → Option ByteArray) (i : Int) (s : ByteArray) : (fun k => if k = i then some (.agg #[.int .i64 i, .string s]) else heldMap held k) = heldMap (upd held i s) := by
  funext k
  unfold heldMap upd
  by_cases h : k = i
  · subst h; simp
  · simp [h]
def Dsk.do_ (d : Dsk) (p : Int × ByteArray) : Dsk := { d with held := upd d.held p.1 p.2 }

theorem do_any (g b : Nat) (v : Value) (d : Dsk) (i : Int) (s : ByteArray) (w : World) (h : DskAt w g b v d) :
    Calls Try.prog 27 #[.pointer (some ⟨g, 0, none⟩), .agg #[.int .i64 i, .string s]] w fun e w' => e = .returned (.tuple #[]) ∧ DskAt w' g b v (d.do_ (i, s)) ∧ Fr (foot g b v) w w' := by
  have h1 := h.alloc (.cells #[.int .i64 i, .string s] 66)
  have hb := Blk.new w 66 #[.int .i64 i, .string s]
  obtain ⟨c0, c1, c2, c3, c4⟩ := h1.cells
  have hg := h.blk.lt
  have hmb := h.map.lt
  have b0 : (w.alloc (.cells #[.int .i64 i, .string s] 66)).cell? ⟨w.heap.size, 0, none⟩ = some (.int .i64 i) := hb.cell 0
  have b1 : (w.alloc (.cells #[.int .i64 i, .string s] 66)).cell? ⟨w.heap.size, 1, none⟩ = some (.string s) := hb.cell 1
  obtain ⟨w3, hrun, hput⟩ := run_update_imap (P := Try.prog) (w := (w.alloc (.cells #[.int .i64 i, .string s] 66)).drew) (t := 58) (kt := 3) (et := 66) Try.underlying58 Try.underlying3 h1.map.drew i (.agg #[.int .i64 i, .string s])
  have k1 : w3.cell? ⟨g, 3, none⟩ = some (.map (some b)) := hput.2.1.cell c3 (fun e => h.gb (by cases e; rfl))
  have k2 : w3.cell? ⟨w.heap.size, 0, none⟩ = some (.int .i64 i) := hput.2.1.cell b0 (fun e => by simp at e; omega)
  have k3 : w3.cell? ⟨w.heap.size, 1, none⟩ = some (.string s) := hput.2.1.cell b1 (fun e => by simp at e; omega)
  have hF : Fr (foot g b v) w w3 := ((Fr.refl _ w).alloc (.cells #[.int .i64 i, .string s] 66)).drew.trans (Fr.of_grown (S := fun k => k = b) hput.2.1 (fun k e => by cases e; rfl)) (fun k _ e => .inr (.inl e))
  have hF2 : Fr (fun k => k = b) w w3 := ((Fr.refl _ w).alloc (.cells #[.int .i64 i, .string s] 66)).drew.trans (Fr.of_grown (S := fun k => k = b) hput.2.1 (fun k e => by cases e; rfl)) (fun k _ e => e)
  have hD : DskAt w3 g b v (d.do_ (i, s)) := ⟨hF2.blk h.blk h.gb, by have := hput.1; rw [heldMap_upd] at this; exact this, hF2.own h.row (fun k hk e => h.bv (by rw [hk, e])), h.gv, h.gb, h.bv⟩
  clear h1 hput hF2 h hb
  go_enter Try.func27, Try.ntmps27
  go_wp2
  go_region_held3 (fun w' => w'.cell? ⟨g, 3, none⟩ = some (.map (some b)) ∧ w'.cell? ⟨w.heap.size, 0, none⟩ = some (.int .i64 i) ∧ w'.cell? ⟨w.heap.size, 1, none⟩ = some (.string s)) (first | exact ⟨k1, k2, k3⟩ | go_keep) (fail)
  go_wp2
  go_end0
  exact ⟨rfl, hD, hF⟩

theorem Fr.self {S : Nat → Prop} {w w' : World} (h : Fr S w w') : Fr S w w' := h

/-- What a sector holds. -/
def zeros : ByteArray := ⟨Array.replicate 128 0⟩
def Dsk.holds (d : Dsk) (i : Int) : ByteArray := (d.held i).getD zeros

theorem holds_some (g b : Nat) (v : Value) (d : Dsk) (i : Int) (s : ByteArray) (w : World) (h : DskAt w g b v d) (hs : d.held i = some s) :
    Calls Try.prog 30 #[.pointer (some ⟨g, 0, none⟩), .int .i64 i] w fun e w' => e = .returned (.string s) ∧ Below w.heap.size w w' := by
  obtain ⟨c0, c1, c2, c3, c4⟩ := h.cells
  have hz : (zeroValue 66).run Try.prog w = .ok (.agg #[.int .i64 0, .string ByteArray.empty]) w := by kernel_rfl
  have hlk := run_lookup_imap (P := Try.prog) (t := 58) (kt := 3) (et := 66) Try.underlying58 Try.underlying3 hz h.map i true
  simp only [heldMap, hs, Option.map_some, Option.getD_some, Option.isSome_some, if_true] at hlk
  clear hz hs
  go_enter Try.func30, Try.ntmps30
  go_wp2
  go_ret
  exact ⟨rfl, (Below.refl _ _).alloc (Nat.le_refl _) _⟩
theorem zeros_rep : (⟨(Lib.repeatL (ByteArray.mk #[0]).data.toList 128).toArray⟩ : ByteArray) = zeros := by decide +kernel
theorem Repeat_zero (w : World) : Calls Try.prog 39 #[.string (ByteArray.mk #[0]), .int .i64 128] w fun e w' => e = .returned (.string zeros) ∧ Below w.heap.size w w' := by
  have h := Try.strings_Repeat (ByteArray.mk #[0]) 128 w (by omega) (by decide)
  rw [zeros_rep] at h
  exact h
theorem holds_none (g b : Nat) (v : Value) (d : Dsk) (i : Int) (w : World) (h : DskAt w g b v d) (hs : d.held i = none) :
    Calls Try.prog 30 #[.pointer (some ⟨g, 0, none⟩), .int .i64 i] w fun e w' => e = .returned (.string zeros) ∧ Below w.heap.size w w' := by
  obtain ⟨c0, c1, c2, c3, c4⟩ := h.cells
  have hz : (zeroValue 66).run Try.prog w = .ok (.agg #[.int .i64 0, .string ByteArray.empty]) w := by kernel_rfl
  have hlk := run_lookup_imap (P := Try.prog) (t := 58) (kt := 3) (et := 66) Try.underlying58 Try.underlying3 hz h.map i true
  simp only [heldMap, hs, Option.map_none, Option.getD_none, Option.isSome_none, if_true] at hlk
  clear hz hs
  have hrep := Repeat_zero (w.alloc (.cells #[.int .i64 0, .string ByteArray.empty] 66))
  go_enter Try.func30, Try.ntmps30
  go_wp2_with (go_at_call 39; refine hrep.mono ?_; rintro e w1 ⟨rfl, hb1⟩)
  go_ret
  exact ⟨rfl, ((Below.refl _ _).alloc (Nat.le_refl _) _).trans (hb1.mono (by simp))⟩
theorem holds_any (g b : Nat) (v : Value) (d : Dsk) (i : Int) (w : World) (h : DskAt w g b v d) :
    Calls Try.prog 30 #[.pointer (some ⟨g, 0, none⟩), .int .i64 i] w fun e w' => e = .returned (.string (d.holds i)) ∧ Below w.heap.size w w' := by
  unfold Dsk.holds
  cases hs : d.held i with
  | none => exact holds_none g b v d i w h hs
  | some s => exact holds_some g b v d i s w h hs
end Go.Proofs.Ytofoneapfokdjaa
