/- The contract of (*Disk).Read: the last pending write to a sector, or what it holds. -/
import Derived.Test.YtofoneapfokdjaaBack
import Derived.Test.YtofoneapfokdjaaDisk3
namespace Go.Proofs.Ytofoneapfokdjaa
set_option linter.unusedSimpArgs false
set_option linter.unusedVariables false
open Go.RowKit Go.Shelf
attribute [local go_sem] Oper.semAt_some

theorem backTo_all (zs : List (Int × ByteArray)) : (backTo zs zs.length).map (·.2) = zs.reverse := by
  apply List.ext_getElem
  · simp [backTo]
  · intro i h1 h2
    have hi : i < zs.length := by simpa using h2
    simp only [backTo, List.map_map, List.getElem_map, List.getElem_range, Function.comp, List.getElem_reverse]
    rw [List.getElem?_eq_getElem (by omega)]
    rfl
def Dsk.read (d : Dsk) (i : Int) : ByteArray := ((d.pend.reverse.find? fun p => p.1 == i).map (·.2)).getD (d.holds i)
theorem Dsk.read_none (d : Dsk) (i : Int) (h : ∀ x ∈ backTo d.pend d.pend.length, x.2.1 ≠ i) : d.read i = d.holds i := by
  unfold Dsk.read
  have : d.pend.reverse.find? (fun p => p.1 == i) = none := by
    rw [← backTo_all, List.find?_eq_none]
    intro p hp
    obtain ⟨x, hx, rfl⟩ := List.mem_map.1 hp
    simpa using h x hx
  rw [this]; rfl
theorem Dsk.read_some (d : Dsk) (i : Int) (k : Nat) (hk : k ≤ d.pend.length) (ini : List (Nat × Int × ByteArray)) (last : Nat × Int × ByteArray) (e : backTo d.pend k = ini ++ [last]) (h : ∀ x ∈ ini, x.2.1 ≠ i) (hl : last.2.1 = i) : d.read i = last.2.2 := by
  unfold Dsk.read
  have hall : d.pend.reverse = (ini.map (·.2)) ++ last.2 :: ((backTo d.pend d.pend.length).drop k).map (·.2) := by
    rw [← backTo_all]
    have : backTo d.pend d.pend.length = backTo d.pend k ++ (backTo d.pend d.pend.length).drop k := by
      have h1 : backTo d.pend k = (backTo d.pend d.pend.length).take k := by
        unfold backTo
        rw [← List.map_take, List.take_range, Nat.min_eq_left hk]
      rw [h1, List.take_append_drop]
    rw [e] at this
    have h3 := congrArg (List.map (·.2)) this
    simp only [List.map_append, List.map_cons, List.append_assoc, List.cons_append, List.nil_append] at h3
    exact h3
  have hini : (ini.map (·.2)).find? (fun p => p.1 == i) = none := by
    rw [List.find?_eq_none]
    intro p hp
    obtain ⟨x, hx, rfl⟩ := List.mem_map.1 hp
    simpa using h x hx
  rw [hall, List.find?_append, hini, List.find?_cons_of_pos (by simpa using hl)]
  rfl

/-- A block that is one write, and may be read. -/
def Boxed2 (W : World) (B : Nat) (p : Int × ByteArray) : Prop := Blk W B 66 #[.int .i64 p.1, .string p.2]
theorem Boxed2.keep {W W' : World} {B : Nat} {p : Int × ByteArray} {row : Option Nat} (h : Boxed2 W B p) (hg : W.grownBy W' row) (hr : ∀ r, row = some r → ∃ o : Obj, W.heap[r]? = some o ∧ o.isCells = false) : Boxed2 W' B p := by
  refine Blk.grown h hg (fun e => ?_)
  obtain ⟨o, h1, h2⟩ := hr B e.symm
  unfold Boxed2 Blk at h
  rw [h] at h1
  cases h1
  simp [Obj.isCells] at h2

set_option maxRecDepth 100000 in
set_option maxHeartbeats 4000000 in
theorem Read_ok (g b : Nat) (v : Value) (d : Dsk) (i : Int) (w : World) (h : DskAt w g b v d) (hi : 0 ≤ i ∧ i < d.n) (hp : d.pend.length ≤ 1000000000) :
    Calls Try.prog 16 #[.pointer (some ⟨g, 0, none⟩), .int .i64 i] w fun e w' => e = .returned (.tuple #[.string (d.read i), .int .i64 0]) ∧ Below w.heap.size w w' := by
  have hd : decide (0 ≤ i ∧ i < d.n) = true := by simpa using hi
  clear hi
  obtain ⟨A, c, rfl, _⟩ := own_slice2 h.row
  refine (callsIn_wide (n := 4)).1 ?_
  refine callsIn_of_wp_marks Try.func16 rfl trivial ?_ rfl
  simp only [Try.ntmps16, List.size_toArray, List.length_cons, List.length_nil, Nat.reduceAdd, Nat.reduceSub, Array.replicate_succ, Array.replicate_zero, List.push_toArray, List.append_toArray, List.nil_append, List.cons_append]
  have h3 := ((h.alloc (.cells #[.int .i64 i] 3)).alloc (.cells #[.string ⟨#[]⟩] 9)).alloc (.cells #[.int .i64 0] 26)
  have hhas := has_any g b _ d i _ h3
  rw [hd] at hhas
  obtain ⟨c0, c1, c2, c3, c4⟩ := h3.cells
  have hz := h.blk.lt
  have hlt := fun q hq => h.lt (k := q) hq
  have hat : ∀ (W : World), Below w.heap.size w W → ∀ j, j < d.pend.length → ∃ ad, A = some ad ∧ (ad.add (j * 2)).block < w.heap.size ∧ W.cell? (ad.add (j * 2)) = some (.int .i64 (d.pend[j]?.getD (0, ByteArray.empty)).1) ∧ W.cell? ⟨(ad.add (j * 2)).block, (ad.add (j * 2)).off + 1, none⟩ = some (.string (d.pend[j]?.getD (0, ByteArray.empty)).2) := by
    intro W hb j hj
    obtain ⟨ad, e, h1, h2⟩ := h.at_ (List.getElem?_eq_getElem hj)
    rw [List.getElem?_eq_getElem hj]
    have hbl : (ad.add (j * 2)).block < w.heap.size := lt_of_cell h1
    exact ⟨ad, e, hbl, (hb.cell hbl).trans h1, (hb.cell (p := ⟨(ad.add (j * 2)).block, (ad.add (j * 2)).off + 1, none⟩) hbl).trans h2⟩
  have b0 := (((Boxed.new w 3 (.int .i64 i)).alloc (.cells #[.string ⟨#[]⟩] 9)).alloc (.cells #[.int .i64 0] 26)).alloc (.cells #[.slice A d.pend.length c] 61)
  have b1 := ((Boxed.new (w.alloc (.cells #[.int .i64 i] 3)) 9 (.string ⟨#[]⟩)).alloc (.cells #[.int .i64 0] 26)).alloc (.cells #[.slice A d.pend.length c] 61)
  have b2 := (Boxed.new ((w.alloc (.cells #[.int .i64 i] 3)).alloc (.cells #[.string ⟨#[]⟩] 9)) 26 (.int .i64 0)).alloc (.cells #[.slice A d.pend.length c] 61)
  have b3 := Boxed.new (((w.alloc (.cells #[.int .i64 i] 3)).alloc (.cells #[.string ⟨#[]⟩] 9)).alloc (.cells #[.int .i64 0] 26)) 61 (.slice A d.pend.length c)
  simp only [World.size_alloc] at b1 b2 b3
  have hB0 : Below w.heap.size w ((((w.alloc (.cells #[.int .i64 i] 3)).alloc (.cells #[.string ⟨#[]⟩] 9)).alloc (.cells #[.int .i64 0] 26)).alloc (.cells #[.slice A d.pend.length c] 61)) := ((((Below.refl _ w).alloc (Nat.le_refl _) _).alloc (by simp) _).alloc (by simp; omega) _).alloc (by simp; omega) _
  have hsz : ((((w.alloc (.cells #[.int .i64 i] 3)).alloc (.cells #[.string ⟨#[]⟩] 9)).alloc (.cells #[.int .i64 0] 26)).alloc (.cells #[.slice A d.pend.length c] 61)).heap.size = w.heap.size + 4 := by simp
  gi_wp2_with (first | (refine ⟨trivial, ?_⟩; gi_at_call 25; refine (callsIn_wide.2 hhas).mono ?_; rintro e w' ⟨rfl, rfl⟩) | (refine ⟨trivial, ?_⟩; gi_at_call 29; refine (back_in Fence.wide _ trivial rfl _ _ _ _).mono ?_; rintro e w' ⟨rfl, rfl⟩))
  clear c0 c1 c2 c3 c4 hhas h3
  obtain ⟨W0, hW0⟩ : ∃ W0, (((w.alloc (.cells #[.int .i64 i] 3)).alloc (.cells #[.string ⟨#[]⟩] 9)).alloc (.cells #[.int .i64 0] 26)).alloc (.cells #[.slice A d.pend.length c] 61) = W0 := ⟨_, rfl⟩
  rw [hW0] at b0 b1 b2 b3 hB0 hsz ⊢
  clear hW0
  refine wpIn_rangeFunc_ownH (F := Fence.wide) (n := 4) rfl (by omega) (gf := 38) (lb := #[.pointer (some ⟨w.heap.size + 1 + 1 + 1, 0, none⟩)]) rfl trivial (enters_of Try.func38 (by kernel_rfl) rfl)
    (back_stops Fence.wide 3 trivial rfl (by omega) (w.heap.size + 1 + 1 + 1) W0.heap.size A c d.pend hp W0 (by omega) (Nat.le_refl _) b3.cell (fun j hj => by obtain ⟨ad, e, h1, h2, h3⟩ := hat W0 hB0 j hj; exact ⟨ad, e, by omega, h2, h3⟩)) belowK_t (belowK_b (Nat.le_refl _)) (Below.refl _ _) (fun _ => rfl)
    (fun pre W => (((((∀ x ∈ pre, x.2.1 ≠ i) ∧ Boxed W w.heap.size 3 (.int .i64 i)) ∧ Boxed W (w.heap.size + 1) 9 (.string ⟨#[]⟩)) ∧ Boxed W (w.heap.size + 1 + 1) 26 (.int .i64 0)) ∧ Below W0.heap.size W0 W))
    (fun c' pre W => (((c' = .ret ∧ ∃ ini last, pre = ini ++ [last] ∧ (∀ x ∈ ini, x.2.1 ≠ i) ∧ last.2.1 = i ∧ Boxed W (w.heap.size + 1) 9 (.string last.2.2)) ∧ Boxed W (w.heap.size + 1 + 1) 26 (.int .i64 0)) ∧ Below w.heap.size w W))
    (OwnFrom.and (OwnFrom.and (OwnFrom.and (OwnFrom.and (ownFrom_pure _ _) (Own.from (boxed_own _ _ _) _)) (Own.from (boxed_own _ _ _) _)) (Own.from (boxed_own _ _ _) _)) (ownFrom_below (Nat.le_refl _) (by omega)))
    (fun c' => OwnFrom.and (OwnFrom.and (fun s X Y row hs hg hr => by
      obtain ⟨e0, ini, last, e1, e2, e3, e4⟩ := hs
      exact ⟨e0, ini, last, e1, e2, e3, boxed_own (w.heap.size + 1) 9 (fun (_ : Unit) => Value.string last.2.2) () X Y row e4 hg (fun r e => (hr r e).2)⟩) (Own.from (boxed_own _ _ _) _)) (ownFrom_below (Nat.le_refl _) (by omega)))
    ⟨⟨⟨⟨by simp, b0⟩, b1⟩, b2⟩, Below.refl _ _⟩
    (fun x a' W => ∃ Bx, W0.heap.size ≤ Bx ∧ Boxed2 W Bx x.2 ∧ a' = { tmps := #[.pointer (some ⟨g, 0, none⟩), .int .i64 i, undef, .pointer (some ⟨w.heap.size, 0, none⟩), .pointer (some ⟨w.heap.size + 1, 0, none⟩), .pointer (some ⟨w.heap.size + 1 + 1, 0, none⟩), undef, .pointer (some ⟨Bx, 0, none⟩), .pointer (some ⟨g, 0, none⟩), .int .i64 i, .bool true, .bool false, .pointer (some ⟨g, 0, none⟩), .pointer (some ⟨g, 0, none⟩), .pointer (some ⟨g, 4, none⟩), .slice A d.pend.length c, .func (.func 38) #[] #[.pointer (some ⟨w.heap.size + 1 + 1 + 1, 0, none⟩)], .int .i64 (x.1 : Int), .agg #[.int .i64 x.2.1, .string x.2.2], undef, undef, undef, undef, undef, undef, undef, undef, undef], defers := [] })
    (fun x a' _ X Y row hs hg hr => by obtain ⟨Bx, e1, e2, e3⟩ := hs; exact ⟨Bx, e1, e2.keep hg (fun r e => (hr r e).2), e3⟩)
    ?assign ?body ?done ?stop
  case assign =>
    rintro l pre x W K ⟨⟨⟨⟨hp1, bA⟩, bB⟩, bC⟩, hB1⟩ hK
    gi_wp2
    exact hK _ _ ((KeepsOthers.alloc _ _).from _) ((Below.refl _ W).alloc hB1.size _) ⟨⟨⟨⟨hp1, bA.alloc _⟩, bB.alloc _⟩, bC.alloc _⟩, hB1.alloc hB1.size _⟩ ⟨W.heap.size, hB1.size, Blk.new _ _ _, rfl⟩
  case body =>
    rintro l pre x a' W hl ⟨r, hr⟩ ⟨⟨⟨⟨hp1, bA⟩, bB⟩, bC⟩, hB1⟩ ⟨Bx, hBx, bX, rfl⟩ hlt'
    have cA := bA.cell
    have cB := bB.cell
    have fB := bB.frozen
    have cC := bC.cell
    have fC := bC.frozen
    have x0 : W.cell? ⟨Bx, 0, none⟩ = some (.int .i64 x.2.1) := bX.cell 0
    have x1 : W.cell? ⟨Bx, 1, none⟩ = some (.string x.2.2) := bX.cell 1
    have hBw := hB0.trans (hB1.mono (B' := w.heap.size) (by omega))
    by_cases hx : x.2.1 = i
    · have hx1 : x.2.1 ≤ i := by omega
      have hx2 : i ≤ x.2.1 := by omega
      have HX := Lib.hid hx
      clear hx
      gi_wp2
      exact ⟨((KeepsOthers.setCell _ _ _).trans (KeepsOthers.setCell _ _ _)).from _, ⟨⟨rfl, pre, x, rfl, hp1, HX.out, (bB.set _).other (by omega) _⟩, (bC.other (by omega) _).set _⟩, (hBw.setCell (p := ⟨w.heap.size + 1, 0, none⟩) (by simp) _).setCell (p := ⟨w.heap.size + 1 + 1, 0, none⟩) (by simp; omega) _⟩
    · gi_wp2
      exact ⟨KeepsFrom.refl _ _, Below.refl _ _, ⟨⟨⟨fun z hz => (List.mem_append.1 hz).elim (hp1 z) (fun e => by simp at e; subst e; exact hx), bA⟩, bB⟩, bC⟩, hB1⟩
  case done =>
    rintro D ys W hD rfl ⟨⟨⟨⟨hp1, bA⟩, bB⟩, bC⟩, hB1⟩ hK
    have hBw := hB0.trans (hB1.mono (B' := w.heap.size) (by omega))
    have hread := d.read_none i hp1
    have hho := holds_any g b _ d i W (h.keep (S := fun _ => False) (Fr.of_below hBw) (fun _ _ h => h))
    rw [← hread] at hho
    obtain ⟨rd, hrd⟩ : ∃ rd, d.read i = rd := ⟨_, rfl⟩
    rw [hrd] at hho
    have HRD := Lib.hid hrd
    have cA := bA.cell
    clear hread hrd
    gi_wp2_with (refine ⟨trivial, ?_⟩; gi_at_call 30; refine (callsIn_wide.2 hho).mono ?_; rintro e W1 ⟨rfl, hb1⟩; have bB' : Boxed W1 (w.heap.size + 1) 9 (.string ⟨#[]⟩) := (hb1.block _ bB.lt).trans bB; have bC' : Boxed W1 (w.heap.size + 1 + 1) 26 (.int .i64 0) := (hb1.block _ bC.lt).trans bC; have cB := bB'.cell; have fB := bB'.frozen; have cC := bC'.cell; have fC := bC'.frozen; have hK1 : W1.heap[D]? = some (.deferred (some [])) := (hb1.block _ (Array.getElem?_eq_some_iff.1 hK).1).trans hK)
    have hK2 := ((KeepsOthers.setCell W1 ⟨w.heap.size + 1, 0, none⟩ (.string rd)).trans (KeepsOthers.setCell _ ⟨w.heap.size + 1 + 1, 0, none⟩ (.int .i64 0))).same D _ hK1 rfl
    refine ⟨by simp, .inl ⟨_, _, rfl, run_takeDeferred hK2, ?_⟩⟩
    have hc5 := cell_kept ((bB'.set (.string rd)).other (B' := w.heap.size + 1 + 1) (by omega) (.int .i64 0)).cell (grownBy_putObj' _ D (.deferred none)) (fun r e => by cases e; exact ⟨_, hK2, rfl⟩)
    have hc6 := cell_kept ((bC'.other (B' := w.heap.size + 1) (by omega) (.string rd)).set (.int .i64 0)).cell (grownBy_putObj' _ D (.deferred none)) (fun r e => by cases e; exact ⟨_, hK2, rfl⟩)
    have hBz := hBw.size
    have hB2 : Below w.heap.size w ((W1.setCell ⟨w.heap.size + 1, 0, none⟩ (.string rd)).setCell ⟨w.heap.size + 1 + 1, 0, none⟩ (.int .i64 0)) := ((hBw.trans (hb1.mono hBz)).setCell (p := ⟨w.heap.size + 1, 0, none⟩) (by simp) _).setCell (p := ⟨w.heap.size + 1 + 1, 0, none⟩) (by simp; omega) _
    refine ⟨.tuple #[.string rd, .int .i64 0], ?_, by rw [HRD.out], hB2.trans (belowK_b (w := w) (Nat.le_refl _) _ D _ _ (by omega) hK2 rfl rfl)⟩
    simp [results, Try.f16, go_sem, hc5, hc6]
  case stop =>
    rintro D c' pre W hD ⟨k, hk, rfl⟩ ⟨⟨⟨rfl, ini, last, e1, e2, e3, bB⟩, bC⟩, hBw⟩ hK
    have hread := d.read_some i k hk ini last e1 e2 e3
    gi_wp2
    refine ⟨by simp, .inl ⟨_, _, rfl, run_takeDeferred hK, ?_⟩⟩
    have hc5 := cell_kept bB.cell (grownBy_putObj' _ D (.deferred none)) (fun r e => by cases e; exact ⟨_, hK, rfl⟩)
    have hc6 := cell_kept bC.cell (grownBy_putObj' _ D (.deferred none)) (fun r e => by cases e; exact ⟨_, hK, rfl⟩)
    refine ⟨.tuple #[.string last.2.2, .int .i64 0], ?_, by rw [hread], hBw.trans (belowK_b (w := w) (Nat.le_refl _) W D _ _ (by omega) hK rfl rfl)⟩
    simp [results, Try.f16, go_sem, hc5, hc6]

set_option maxHeartbeats 1000000 in
theorem Read_bad (g b : Nat) (v : Value) (d : Dsk) (i : Int) (w : World) (h : DskAt w g b v d) (hi : ¬ (0 ≤ i ∧ i < d.n)) :
    Calls Try.prog 16 #[.pointer (some ⟨g, 0, none⟩), .int .i64 i] w fun e w' => e = .returned (.tuple #[.string ⟨#[]⟩, .int .i64 1]) ∧ Below w.heap.size w w' := by
  have hd : decide (0 ≤ i ∧ i < d.n) = false := by simpa using hi
  clear hi
  have h3 := ((h.alloc (.cells #[.int .i64 i] 3)).alloc (.cells #[.string ⟨#[]⟩] 9)).alloc (.cells #[.int .i64 0] 26)
  have hhas := has_any g b _ d i _ h3
  rw [hd] at hhas
  clear h3 h
  go_enter Try.func16, Try.ntmps16
  go_wp2_with (go_at_call 25; refine hhas.mono ?_; rintro e w' ⟨rfl, rfl⟩)
  exact bodyPost_ret (v := .tuple #[.string ⟨#[]⟩, .int .i64 1]) (by simp [results, Try.f16, go_sem]) rfl ⟨rfl, (((Below.refl _ w).alloc (Nat.le_refl _) _).alloc (by simp) _).alloc (by simp; omega) _⟩
end Go.Proofs.Ytofoneapfokdjaa
