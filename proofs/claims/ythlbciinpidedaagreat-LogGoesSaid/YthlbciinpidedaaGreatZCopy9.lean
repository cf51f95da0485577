/- The contract of a disk's Copy. -/
import Derived.Test.YthlbciinpidedaaGreatZK14
import Derived.Test.YthlbciinpidedaaGreatZK4
import Derived.Shelf.SlMaps.Clone
namespace Go.Proofs.YthlbciinpidedaaGreat
set_option linter.unusedSimpArgs false
set_option linter.unusedVariables false
set_option maxRecDepth 100000
open Go.RowKit
attribute [local go_sem high] run_mx run_mn

/-- A copy of a row. -/
def Cloned (w w' : World) (t : TypeId) (size n : Nat) (xs : List Value) (e : Ending) : Prop := ∃ A c, e = .returned (.slice A n c) ∧ w'.ownsRow w.heap.size t size (.slice A n c) n xs ∧ Below w.heap.size w w'
set_option maxRecDepth 100000 in
set_option maxHeartbeats 1000000 in
theorem SlClone_any (A : Option Addr) (n c : Nat) (xs : List Value) (w : World) (h : w.ownsRow 0 151 2 (.slice A n c) n xs) (h1 : ∀ u ∈ xs, u.oneCell' = true) (hn : n ≤ 1000000000) :
    Calls Tryz.prog 81 #[.slice A n c] w fun e w' => Cloned w w' 151 2 n xs e := by
  obtain ⟨i0, hi0, hz0, hz1, hz2⟩ := info_parts infoWrite
  obtain ⟨A0, c0, e0, hr⟩ := own_slice2 h
  cases e0
  have hm1 : 0 + n ≤ maxLen := by unfold maxLen; omega
  have hm2 : (0 + n) * 24 ≤ 140737488355328 := by omega
  have hxl := h.1
  rcases h.2 with ⟨e0, e1⟩ | ⟨g, cap, cur, e0, _⟩
  · cases e0
    have hx : xs = [] := List.eq_nil_of_length_eq_zero (by simpa using hxl)
    subst hx
    have hq := Lib.run_eql_slice_nil (P := Tryz.prog)
    clear h hxl hr
    go_enter Tryz.func81, Tryz.ntmps81
    go_wp2
    go_ret
    exact ⟨_, _, rfl, World.ownsRow_nil .., Below.refl _ _⟩
  · cases e0
    have hown : (w.alloc (.cells #[] 151)).ownsRow w.heap.size 151 2 (.slice (some ⟨w.heap.size, 0, none⟩) 0 0) 0 [] := World.ownsRow_lit (e := 151) (base := w.heap.size) (size := 2) w #[] 0 (Nat.le_refl _) (by simp [maxLen]) (by simp)
    have hr2 := (hr.alloc (Nat.le_refl _) (.cells #[] 151)).more (B' := (w.alloc (.cells #[] 151)).heap.size) (by simp)
    have hbw : Below w.heap.size w (w.alloc (.cells #[] 151)) := (Below.refl _ w).alloc (Nat.le_refl _) _
    have hone := Lib.hid h1
    have hq := Lib.run_eql_slice_nil (P := Tryz.prog)
    have hsz : w.heap.size ≤ (w.alloc (.cells #[] 151)).heap.size := by simp
    clear h hxl hr h1
    go_enter Tryz.func81, Tryz.ntmps81
    go_wp2_with (at_builtin; refine wpList_append_any _ rfl _ _ 121 rfl w.heap.size 151 i0 _ 2 24 Tryz.underlying121 hi0 hz0 hz1 hz2 rfl (by decide) _ _ _ rfl hown _ _ n _ xs rfl hr2 hone.out hm1 hm2 hsz ?_; intro v' w2 ho hg hn')
    go_ret
    rw [Nat.zero_add, List.nil_append] at ho
    obtain ⟨A', c', rfl, _⟩ := own_slice2 ho
    have hb2 : Below w.heap.size (w.alloc (.cells #[] 151)) w2 := (Fr.of_grown (S := fun k => k = w.heap.size) hg (fun k e => by cases e; rfl)).below hsz (fun k _ e => Nat.le_of_eq e.symm)
    exact ⟨_, _, rfl, ho, hbw.trans hb2⟩

set_option maxRecDepth 100000 in
set_option maxHeartbeats 1000000 in
theorem MapClone_any (b : Nat) (es : Array MapEntry) (clock : Nat) (w : World) (hb : w.heap[b]? = some (.map es clock)) :
    Calls Tryz.prog 80 #[.map (some b)] w fun e w' => e = .returned (.map (some w.heap.size)) ∧ w' = w.alloc (.map es clock) := by
  have hq := fun w => run_eql_map_nil_sl (P := Tryz.prog) w 120 _ _ (some b) Tryz.underlying120
  go_enter Tryz.func80, Tryz.ntmps80
  go_wp2
  rw [run_callFunc_extern Tryz.func120 (by kernel_rfl) (by kernel_rfl) (by kernel_rfl) (e := Extern.MapsClone.clone) (by kernel_rfl), run_maps_clone_sl w 120 hb]
  simp only [Result.andThen]
  rw [Oper.upon_value]
  go_wp2
  rw [run_typeAssert_map_sl _ 120 20 _ _ _ Tryz.underlying120]
  simp only [Result.andThen]
  rw [Oper.upon_value]
  go_wp2
  go_ret
  exact ⟨rfl, rfl⟩

theorem writeCells_one (pd : List (Int × ByteArray)) : ∀ u ∈ pd.flatMap writeCells, u.oneCell' = true := by
  intro u hu
  obtain ⟨p, _, hp⟩ := List.mem_flatMap.1 hu
  simp [writeCells] at hp
  rcases hp with rfl | rfl <;> rfl
theorem own_base {w : World} {B : Nat} {e : TypeId} {size n : Nat} {v : Value} {xs : List Value} (h : w.ownsRow B e size v n xs) : w.ownsRow 0 e size v n xs := by
  refine ⟨h.1, ?_⟩
  rcases h.2 with h2 | ⟨g, cap, cur, hv, hg, r⟩
  · exact .inl h2
  · exact .inr ⟨g, cap, cur, hv, Nat.zero_le _, r⟩
/-- What a copy of a thing is. -/
def CopyOf (w w' : World) (F : Nat → Thing) (e : Ending) : Prop := ∃ g, e = .returned (.pointer (some ⟨g, 0, none⟩)) ∧ Below w.heap.size w w' ∧ ∃ S, (F g).is w' S ∧ ∀ k, S k → w.heap.size ≤ k
set_option maxRecDepth 100000 in
set_option maxHeartbeats 4000000 in
theorem Copy_any (g : Nat) (d : Dsk) (w : World) (S : Nat → Prop) (hO : (dskT g d).is w S) (hp : d.pend.length ≤ 1000000000) :
    Calls Tryz.prog 38 #[.pointer (some ⟨g, 0, none⟩)] w fun e w' => CopyOf w w' (fun g => dskT g d) e := by
  obtain ⟨b, v, h, _⟩ := hO
  obtain ⟨A, c, rfl, _⟩ := own_slice2 h.row
  have hgl := h.blk.lt
  have hbl := h.map.lt
  have hall : ∀ w1, Newer w.drew w1 → DskAt w1 g b (.slice A d.pend.length c) d := fun w1 h1 => h.below h1.undrew
  have hcell := fun w1 h1 => (hall w1 h1).cells
  go_enter Tryz.func38, Tryz.ntmps38
  go_wp2_with fail
  refine wp_region_ord Newer.grow [(0, true), (1, true), (2, true), (3, true), (4, true), (5, true), (6, true), (7, true), (8, true), (9, true), (10, true), (11, true), (13, true), (14, true), (15, true), (16, true), (12, false), (17, false), (18, true), (19, false), (20, true)] [] (by kernel_rfl) (by kernel_rfl) rfl (by kernel_rfl) (by intro _ _ d _ _ h; cases d <;> exact h) ?_
  iterate 16
    (apply wpOrd_take
     · exact rfl
     · intro w1 h1
       (obtain ⟨c0, c1, c2, c3, c4⟩ := hcell w1 h1)
       go_simp
       first
         | with_reducible exact ⟨rfl, Newer.grow.refl _⟩
     simp only [Act.put, List.setIfInBounds_toArray, List.set_cons_zero, List.set_cons_succ])
  refine wpOrd_do rfl ?_
  intro w1 h1 K hK
  go_simp
  have hd1 := hall w1 h1
  obtain ⟨es, cl, hb, hke, hf⟩ := hd1.map
  go_at_call 80
  refine (MapClone_any b es cl w1 hb).mono ?_
  rintro e w2 ⟨rfl, rfl⟩
  have hB1 : Newer w1 (w1.alloc (.map es cl)) := (Newer.refl _).alloc _
  have hm : IMap (w1.alloc (.map es cl)) w1.heap.size (heldMap d.held) := ⟨es, cl, heap_alloc_new w1 _, hke, hf⟩
  refine hK _ _ hB1 ?_
  clear hK K hb
  refine wpOrd_do rfl ?_
  intro w3 h3 K hK
  go_simp
  have hd3 := hd1.below (hB1.trans h3)
  go_at_call 81
  refine (SlClone_any A d.pend.length c _ w3 hd3.row (writeCells_one _) hp).mono ?_
  rintro e w4 ⟨A2, c2, rfl, ho, hB4⟩
  refine hK _ _ hB4 ?_
  clear hK K
  iterate 1
    (apply wpOrd_take
     · exact rfl
     · intro w1 h1
       (skip)
       go_simp
       first
         | with_reducible exact ⟨rfl, Newer.grow.refl _⟩
     simp only [Act.put, List.setIfInBounds_toArray, List.set_cons_zero, List.set_cons_succ])
  refine wpOrd_do rfl ?_
  intro w5 h5 K hK
  go_simp
  refine hK _ _ ((Newer.refl _).alloc _) ?_
  clear hK K
  iterate 1
    (apply wpOrd_take
     · exact rfl
     · intro w1 h1
       (skip)
       go_simp
       first
         | with_reducible exact ⟨rfl, Newer.grow.refl _⟩
     simp only [Act.put, List.setIfInBounds_toArray, List.set_cons_zero, List.set_cons_succ])
  refine wpOrd_done fun w6 h6 => ?_
  go_wp2_with fail
  go_ret
  have z1 : w.heap.size ≤ w1.heap.size := h1.undrew.size
  have z3 : w1.heap.size + 1 ≤ w3.heap.size := by have := h3.size; simpa using this
  have z4 := hB4.size
  have z5 := h5.size
  have z6 : w5.heap.size + 1 ≤ w6.heap.size := by have := h6.size; simpa using this
  have h56 : Newer w5 w6 := ((Newer.refl w5).alloc _).trans h6
  have h46 : Newer w4 w6 := h5.trans h56
  have h36 : Newer w3 w6 := Newer.trans hB4 h46
  have h16 : Newer (w1.alloc (.map es cl)) w6 := h3.trans h36
  have hwb : Below w.heap.size w w6 := Newer.trans (h1.undrew.trans hB1) h16
  have hblk := (Blk.new w5 123 #[.bool d.lim, .int .i64 d.left, .int .i64 d.n, .map (some w1.heap.size), .slice A2 d.pend.length c2]).below h6 (by simp)
  have hm6 : IMap w6 w1.heap.size (heldMap d.held) := hm.of_block (h16.block _ (by simp))
  have ho6 := own_base (ownsRow_below ho h46 (Nat.le_refl _))
  have hlt := ho.lt
  refine ⟨w5.heap.size, rfl, hwb, _, ⟨w1.heap.size, .slice A2 d.pend.length c2, ⟨hblk, hm6, ho6, fun e => ?_, by omega, fun e => ?_⟩, fun _ => Iff.rfl⟩, fun k hk => ?_⟩
  · have := (hlt _ e).2; omega
  · have := (hlt _ e).1; omega
  · rcases hk with rfl | rfl | hk
    · omega
    · omega
    · have := (hlt _ hk).1; omega
end Go.Proofs.YthlbciinpidedaaGreat
