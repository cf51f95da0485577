/- The contract of Do: one call of both disks. -/
import Derived.Test.YtofoneapfokdjaaDoes5
namespace Go.Proofs.Ytofoneapfokdjaa
set_option linter.unusedSimpArgs false
set_option linter.unusedVariables false
open Go.RowKit
attribute [local go_sem high] run_mx run_mn

/-- What the walk of Do ends with. -/
def Did (S : Nat → Prop) (w w' : World) (g h : Nat) (m : Nat) (e : Ending) : Prop := e = .returned (.int .i64 1) ∧ ∃ d r, Rel d r ∧ d.pend.length ≤ m ∧ Now S w w' [dskT g d, refT h r]
theorem cut130_size (s : ByteArray) (hs : s.size ≤ 9223372036854775807) : (s.extract 0 (min s.size 130)).size ≤ 9223372036854775807 := by rw [ByteArray.size_extract]; omega
abbrev opVal (kind i : Int) (s : ByteArray) (A : Option Addr) (n c : Nat) (torn at_ : Int) : Array Value := #[.int .i64 kind, .int .i64 i, .string s, .slice A n c, .int .i64 torn, .int .i64 at_]

theorem tail_facts {S : Nat → Prop} {w v : World} {P : Thing} {g h : Nat} {d : Dsk} {r : RDsk} (hN : Now S w v [P, dskT g d, refT h r]) (hR : Rel d r) :
    ∃ AL cL AW cW, (∀ w1, Newer v.drew w1 → w1.cell? ⟨h, 0, none⟩ = some (.slice AL r.L.length cL) ∧ w1.cell? ⟨h, 1, none⟩ = some (.slice AW r.pend.length cW)) ∧
      (∀ w1, Newer v.drew w1 → Calls Try.prog 14 #[.pointer (some ⟨g, 0, none⟩)] w1 fun e w' => e = .returned (.int .i64 (r.pend.length : Nat)) ∧ Newer w1 w') ∧
      ∀ w1, Newer v.drew w1 → Calls Try.prog 31 #[.pointer (some ⟨g, 0, none⟩)] w1 fun e w' => e = .returned (.int .i64 (r.L.length : Nat)) ∧ Newer w1 w' := by
  obtain ⟨S1, ⟨vL, vW, vX⟩, h1⟩ := Now.get (pre := [_, _]) hN
  obtain ⟨S2, h2⟩ := Now.get (pre := [_]) hN
  obtain ⟨⟨AL, cL, rfl, _⟩, ⟨AW, cW, rfl, _⟩, _⟩ := (Now.start h1).refRows
  refine ⟨AL, cL, AW, cW, fun w1 hw => ?_, fun w1 hw => ?_, fun w1 hw => ?_⟩
  · obtain ⟨c0, c1, _⟩ := ((Now.start h1).drew.below hw).refCells
    exact ⟨c0, c1⟩
  · obtain ⟨S3, h3, _⟩ := Now.one ((Now.start1 h2).drew.below hw)
    have := NPending g d w1 S3 h3
    rw [hR.pend] at this; exact this
  · obtain ⟨S3, h3, _⟩ := Now.one ((Now.start1 h2).drew.below hw)
    have := NLen g d w1 S3 h3
    rw [hR.n] at this; exact this

set_option maxRecDepth 100000 in
set_option maxHeartbeats 8000000 in
theorem Do_write (g h : Nat) (d : Dsk) (r : RDsk) (hR : Rel d r) (hp : d.pend.length ≤ 100000000) (kind i : Int) (s : ByteArray) (hs : s.size ≤ 9223372036854775807) (A : Option Addr) (n c : Nat) (torn at_ : Int) (w : World) (S : Nat → Prop) (hN : Now S w w [dskT g d, refT h r])
    (m : Int) (hm : bits BinOp.and IntKind.i64 kind 7 = m) (hmm : m = 0 ∨ m = 1 ∨ m = 2) :
    Calls Try.prog 22 #[.pointer (some ⟨g, 0, none⟩), .pointer (some ⟨h, 0, none⟩), .agg (opVal kind i s A n c torn at_)] w fun e w' => Did S w w' g h (d.pend.length + 1) e := by
  have hN0 := hN.pushCells 55 (opVal kind i s A n c torn at_)
  have m1 : (0 : Int) ≤ mn (s.size : Int) 130 := by rw [mn_def]; omega
  have m2 : mn (s.size : Int) 130 ≤ (s.size : Int) := by rw [mn_def]; omega
  have hcs := cut130_size s hs
  have f1 : (min (s.size : Int) 130).toNat = min s.size 130 := by omega
  have hF := hR.fits (by omega)
  obtain ⟨t, ht⟩ : ∃ t, s.extract 0 (min s.size 130) = t := ⟨_, rfl⟩
  rw [ht] at hcs
  obtain ⟨e1, hR9⟩ := hR.write i (full t)
  have hl9 := writeS_len d i (full t)
  have q1 := fun v hN => (LWrite g d i (full t) (by omega)).at_ (S0 := S) (w0 := w) (w := v) [Thing.cells w.heap.size 55 (opVal kind i s A n c torn at_)] [refT h r] hN
  have q2 := fun v hN => (RWrite_all h r i (full t) hF).at_ (S0 := S) (w0 := w) (w := v) [Thing.cells w.heap.size 55 (opVal kind i s A n c torn at_), dskT g (d.writeS i (full t))] [] hN
  rw [← e1] at q2
  generalize d.writeE i (full t) = we at q1 q2
  generalize d.writeS i (full t) = d9 at q1 q2 hR9 hl9
  generalize r.writeS i (full t) = r9 at q1 q2 hR9
  have hF9 := hR9.fits (by omega)
  have r1 := fun v hN => (LRead g d9 i (by omega)).at_ (S0 := S) (w0 := w) (w := v) [Thing.cells w.heap.size 55 (opVal kind i s A n c torn at_)] [refT h r9] hN
  have r2 := fun v hN => (RRead_all h r9 i hF9).at_ (S0 := S) (w0 := w) (w := v) [Thing.cells w.heap.size 55 (opVal kind i s A n c torn at_), dskT g d9] [] hN
  obtain ⟨e2, e3⟩ := hR9.read i
  rw [← e2, ← e3] at r2
  generalize d9.readV i = rv at r1 r2
  generalize d9.readE i = re at r1 r2
  have hfull := fun v => Full_any t v hcs
  clear e1 e2 e3 hF hF9 hN hR
  go_enter Try.func22, Try.ntmps22
  unfold opVal at *
  rcases hmm with rfl | rfl | rfl
  all_goals
    go_wp2_with fail
    try rw [f1, ht]
    clear f1 ht m1 m2
    obtain ⟨wb, hwb⟩ : ∃ wb, w.alloc (.cells #[.int .i64 kind, .int .i64 i, .string s, .slice A n c, .int .i64 torn, .int .i64 at_] 55) = wb := ⟨_, rfl⟩
    rw [hwb] at hN0 ⊢
    clear hwb
    obtain ⟨x, hx⟩ : ∃ x, w.heap.size = x := ⟨_, rfl⟩
    rw [hx] at hN0 q1 q2 r1 r2 ⊢
    clear hx
    have hb0 := Now.blk (pre := []) hN0
    have c1 : wb.cell? ⟨x, 1, none⟩ = some (.int .i64 i) := hb0.cell 1
    clear hb0
    replace hN0 := hN0.drew
    go_region_held3 (fun w' => w'.cell? ⟨x, 1, none⟩ = some (.int .i64 i)) (first | with_reducible exact c1 | with_reducible exact k1 | with_reducible exact k2 | go_keep) (first
      | (go_at_call 11; with_reducible refine (hfull _).mono ?_; rintro e w3 ⟨rfl, rfl⟩)
      | (go_at_call 12; with_reducible refine (q1 _ hN0).mono ?_; rintro e x1 ⟨rfl, hN1⟩; have k1 : x1.cell? ⟨x, 1, none⟩ = some (.int .i64 i) := (Now.blk (pre := []) hN1).cell 1; clear q1 hN0)
      | (go_at_call 34; with_reducible refine (q2 _ hN1).mono ?_; rintro e x2 ⟨rfl, hN2⟩; have k2 : x2.cell? ⟨x, 1, none⟩ = some (.int .i64 i) := (Now.blk (pre := []) hN2).cell 1; clear q2 hN1))
    go_wp2_with (first
     | (go_at_call 16; (with_reducible refine (r1 _ hN2).mono ?_); rintro e wr1 ⟨rfl, hN8⟩; have hb8 := Now.blk (pre := []) hN8; have c1 : wr1.cell? ⟨x, 1, none⟩ = some (.int .i64 i) := hb8.cell 1; clear r1 hN2 hb8)
     | (go_at_call 37; (with_reducible refine (r2 _ hN8).mono ?_); rintro e wr2 ⟨rfl, hN9⟩; clear r2 hN8))
    obtain ⟨AL, cL, AW, cW, hcell, hq1, hq2⟩ := tail_facts hN9 hR9
    have HN := Lib.hid hN9
    have HR := Lib.hid hR9
    clear hN9 hR9
    refine wp_region_ord Newer.grow [(0, true), (1, true), (2, true), (3, true), (4, true), (5, true), (6, true), (7, true), (8, true), (9, true), (10, true), (11, true), (12, true), (13, true), (14, true), (15, true), (16, true), (17, true), (18, true), (19, true), (20, true), (21, true), (22, true), (23, true), (24, true), (25, true), (26, true), (27, true)] [] (by kernel_rfl) (by kernel_rfl) rfl (by kernel_rfl) (by intro _ _ d _ _ h; cases d <;> exact h) ?_
    iterate 28
     (apply wpOrd_take
      · exact rfl
      · intro w1 h1
        (obtain ⟨c0, c1⟩ := hcell w1 h1)
        go_simp
        first
          | with_reducible exact ⟨rfl, Newer.grow.refl _⟩
          | with_reducible exact hq1 _ h1 | with_reducible exact hq2 _ h1
      simp only [Act.put, List.setIfInBounds_toArray, List.set_cons_zero, List.set_cons_succ])
    refine wpOrd_done fun w6 h6 => ?_
    go_wp2_with fail
    go_ret
    exact ⟨rfl, _, _, HR.out, hl9, Now.drop (pre := []) (Now.below HN.out h6.undrew)⟩
end Go.Proofs.Ytofoneapfokdjaa
