/- The fixed calls of layer 5. -/
import Derived.Test.YtofoneapfokdjaaOwn
namespace Go.Proofs.Ytofoneapfokdjaa
set_option linter.unusedSimpArgs false
set_option linter.unusedVariables false
open Go.RowKit
attribute [local go_sem high] run_mx run_mn

def fixA : ByteArray := full ⟨#[97]⟩
def fixB : ByteArray := full ⟨#[98]⟩
def fixC : ByteArray := full ⟨#[99]⟩
def fixX : ByteArray := full ⟨#[120]⟩
def fixD : ByteArray := full ⟨#[100]⟩
def fixE : ByteArray := full ⟨#[101]⟩
def fixT : ByteArray := ⟨#[98, 98, 98]⟩ ++ fixA.extract 3 128

def fd0 : Dsk := newDsk 2
def fd1 : Dsk := fd0.writeS 0 fixA
def fd2 : Dsk := fd1.flushS
def fd3 : Dsk := fd2.writeS 0 fixB
def fd4 : Dsk := fd3.writeS 1 fixC
def fd5 : Dsk := fd4.writeS 2 fixX
def fd6 : Dsk := fd5.writeS 1 ⟨#[120]⟩
def fd7 : Dsk := fd6.limit 0
def fd8 : Dsk := fd7.writeS 1 fixD
def fd9 : Dsk := fd8.flushS
def fd10 : Dsk := fd9.crash [false, true] 0 3
def fd11 : Dsk := fd10.writeS 1 fixE
theorem fixed_facts : fd0.writeE 0 fixA = 0 ∧ fd1.flushE = 0 ∧ fd2.writeE 0 fixB = 0 ∧ fd3.writeE 1 fixC = 0 ∧ fd4.writeE 2 fixX = 1 ∧ fd5.writeE 1 ⟨#[120]⟩ = 5 ∧ fd6.readV 0 = fixB ∧ fd6.readE 0 = 0 ∧ fd6.pend.length = 2 ∧ fd7.writeE 1 fixD = 9 ∧ fd8.flushE = 9 ∧ fd10.readV 0 = fixT ∧ fd10.readE 0 = 0 ∧ fd10.readV 1 = fixC ∧ fd10.readE 1 = 0 ∧ fd10.readV (-1) = ⟨#[]⟩ ∧ fd10.readE (-1) = 1 ∧ fd10.pend.length = 0 ∧ fd10.n = 2 ∧ fd10.writeE 1 fixE = 0 := by decide +kernel
theorem fixed_short : fd0.pend.length ≤ 1000000000 ∧ fd1.pend.length ≤ 1000000000 ∧ fd2.pend.length ≤ 1000000000 ∧ fd3.pend.length ≤ 1000000000 ∧ fd4.pend.length ≤ 1000000000 ∧ fd5.pend.length ≤ 1000000000 ∧ fd6.pend.length ≤ 1000000000 ∧ fd7.pend.length ≤ 1000000000 ∧ fd8.pend.length ≤ 1000000000 ∧ fd9.pend.length ≤ 1000000000 ∧ fd10.pend.length ≤ 1000000000 := by decide +kernel
theorem Dsk.Good.writeS {d : Dsk} (h : d.Good) (i : Int) (s : ByteArray) : (d.writeS i s).Good := by
  unfold Dsk.writeS
  split
  · rename_i he
    refine h.write ?_
    unfold Dsk.writeE at he
    by_cases hi : 0 ≤ i ∧ i < d.n
    · rw [if_pos hi] at he
      by_cases hs : s.size = 128
      · exact hs
      · rw [if_neg hs] at he; omega
    · rw [if_neg hi] at he; omega
  · exact h
theorem Dsk.Good.doAll (l : List (Int × ByteArray)) : ∀ {d : Dsk}, d.Good → (∀ p ∈ l, p.2.size = 128) → (d.doAll l).Good := by
  induction l with
  | nil => intro d h _; exact h
  | cons p l ih => intro d h hl; exact ih (h.do_ (hl p (by simp))) (fun q hq => hl q (by simp [hq]))
theorem Dsk.Good.flush {d : Dsk} (h : d.Good) : d.flush.Good := ⟨by simp [Dsk.flush], (Dsk.Good.doAll d.pend h.use h.1).2⟩
theorem Dsk.Good.flushS {d : Dsk} (h : d.Good) : d.flushS.Good := by
  unfold Dsk.flushS; split
  · exact h
  · exact h.flush
theorem Dsk.Good.new (n : Int) : (newDsk n).Good := ⟨by simp [newDsk], by simp [newDsk]⟩
theorem Dsk.Good.limit {d : Dsk} (h : d.Good) (n : Int) : (d.limit n).Good := h
theorem fixed_good : fd9.Good := (((((((((Dsk.Good.new 2).writeS _ _).flushS).writeS _ _).writeS _ _).writeS _ _).writeS _ _).limit _).writeS _ _).flushS

theorem fc1 {B g : Nat} {W w : World} (h : Disks B W w [(g, fd0)]) : Calls Try.prog 12 #[.pointer (some ⟨g, 0, none⟩), .int .i64 0, .string fixA] w fun e w' => e = .returned (.int .i64 0) ∧ Disks B W w' [(g, fd1)] := by
  have := DWrite [] [] h 0 fixA fixed_short.1
  rw [(fixed_facts.1 : _)] at this
  exact this
theorem fc2 {B g : Nat} {W w : World} (h : Disks B W w [(g, fd1)]) : Calls Try.prog 13 #[.pointer (some ⟨g, 0, none⟩)] w fun e w' => e = .returned (.int .i64 0) ∧ Disks B W w' [(g, fd2)] := by
  have := DFlush [] [] h fixed_short.2.1
  rw [(fixed_facts.2.1 : _)] at this
  exact this
theorem fc3 {B g : Nat} {W w : World} (h : Disks B W w [(g, fd2)]) : Calls Try.prog 12 #[.pointer (some ⟨g, 0, none⟩), .int .i64 0, .string fixB] w fun e w' => e = .returned (.int .i64 0) ∧ Disks B W w' [(g, fd3)] := by
  have := DWrite [] [] h 0 fixB fixed_short.2.2.1
  rw [(fixed_facts.2.2.1 : _)] at this
  exact this
theorem fc4 {B g : Nat} {W w : World} (h : Disks B W w [(g, fd3)]) : Calls Try.prog 12 #[.pointer (some ⟨g, 0, none⟩), .int .i64 1, .string fixC] w fun e w' => e = .returned (.int .i64 0) ∧ Disks B W w' [(g, fd4)] := by
  have := DWrite [] [] h 1 fixC fixed_short.2.2.2.1
  rw [(fixed_facts.2.2.2.1 : _)] at this
  exact this
theorem fc5 {B g : Nat} {W w : World} (h : Disks B W w [(g, fd4)]) : Calls Try.prog 12 #[.pointer (some ⟨g, 0, none⟩), .int .i64 2, .string fixX] w fun e w' => e = .returned (.int .i64 1) ∧ Disks B W w' [(g, fd5)] := by
  have := DWrite [] [] h 2 fixX fixed_short.2.2.2.2.1
  rw [(fixed_facts.2.2.2.2.1 : _)] at this
  exact this
theorem fc6 {B g : Nat} {W w : World} (h : Disks B W w [(g, fd5)]) : Calls Try.prog 12 #[.pointer (some ⟨g, 0, none⟩), .int .i64 1, .string ⟨#[120]⟩] w fun e w' => e = .returned (.int .i64 5) ∧ Disks B W w' [(g, fd6)] := by
  have := DWrite [] [] h 1 ⟨#[120]⟩ fixed_short.2.2.2.2.2.1
  rw [(fixed_facts.2.2.2.2.2.1 : _)] at this
  exact this
theorem fc7 {B g : Nat} {W w : World} (h : Disks B W w [(g, fd6)]) : Calls Try.prog 16 #[.pointer (some ⟨g, 0, none⟩), .int .i64 0] w fun e w' => e = .returned (.tuple #[.string fixB, .int .i64 0]) ∧ Disks B W w' [(g, fd6)] := by
  have := DRead [] [] h 0 fixed_short.2.2.2.2.2.2.1
  rw [(fixed_facts.2.2.2.2.2.2.1 : _), (fixed_facts.2.2.2.2.2.2.2.1 : _)] at this
  exact this
theorem fc9 {B g : Nat} {W w : World} (h : Disks B W w [(g, fd6)]) : Calls Try.prog 14 #[.pointer (some ⟨g, 0, none⟩)] w fun e w' => e = .returned (.int .i64 2) ∧ w = w' := by
  have := DPending [] [] h
  rw [(fixed_facts.2.2.2.2.2.2.2.2.1 : _)] at this
  exact this
theorem fc10 {B g : Nat} {W w : World} (h : Disks B W w [(g, fd7)]) : Calls Try.prog 12 #[.pointer (some ⟨g, 0, none⟩), .int .i64 1, .string fixD] w fun e w' => e = .returned (.int .i64 9) ∧ Disks B W w' [(g, fd8)] := by
  have := DWrite [] [] h 1 fixD fixed_short.2.2.2.2.2.2.2.1
  rw [(fixed_facts.2.2.2.2.2.2.2.2.2.1 : _)] at this
  exact this
theorem fc11 {B g : Nat} {W w : World} (h : Disks B W w [(g, fd8)]) : Calls Try.prog 13 #[.pointer (some ⟨g, 0, none⟩)] w fun e w' => e = .returned (.int .i64 9) ∧ Disks B W w' [(g, fd9)] := by
  have := DFlush [] [] h fixed_short.2.2.2.2.2.2.2.2.1
  rw [(fixed_facts.2.2.2.2.2.2.2.2.2.2.1 : _)] at this
  exact this
theorem fc12 {B g : Nat} {W w : World} (h : Disks B W w [(g, fd10)]) : Calls Try.prog 16 #[.pointer (some ⟨g, 0, none⟩), .int .i64 0] w fun e w' => e = .returned (.tuple #[.string fixT, .int .i64 0]) ∧ Disks B W w' [(g, fd10)] := by
  have := DRead [] [] h 0 fixed_short.2.2.2.2.2.2.2.2.2.2
  rw [(fixed_facts.2.2.2.2.2.2.2.2.2.2.2.1 : _), (fixed_facts.2.2.2.2.2.2.2.2.2.2.2.2.1 : _)] at this
  exact this
theorem fc14 {B g : Nat} {W w : World} (h : Disks B W w [(g, fd10)]) : Calls Try.prog 16 #[.pointer (some ⟨g, 0, none⟩), .int .i64 1] w fun e w' => e = .returned (.tuple #[.string fixC, .int .i64 0]) ∧ Disks B W w' [(g, fd10)] := by
  have := DRead [] [] h 1 fixed_short.2.2.2.2.2.2.2.2.2.2
  rw [(fixed_facts.2.2.2.2.2.2.2.2.2.2.2.2.2.1 : _), (fixed_facts.2.2.2.2.2.2.2.2.2.2.2.2.2.2.1 : _)] at this
  exact this
theorem fc16 {B g : Nat} {W w : World} (h : Disks B W w [(g, fd10)]) : Calls Try.prog 16 #[.pointer (some ⟨g, 0, none⟩), .int .i64 (-1)] w fun e w' => e = .returned (.tuple #[.string ⟨#[]⟩, .int .i64 1]) ∧ Disks B W w' [(g, fd10)] := by
  have := DRead [] [] h (-1) fixed_short.2.2.2.2.2.2.2.2.2.2
  rw [(fixed_facts.2.2.2.2.2.2.2.2.2.2.2.2.2.2.2.1 : _), (fixed_facts.2.2.2.2.2.2.2.2.2.2.2.2.2.2.2.2.1 : _)] at this
  exact this
theorem fc18 {B g : Nat} {W w : World} (h : Disks B W w [(g, fd10)]) : Calls Try.prog 14 #[.pointer (some ⟨g, 0, none⟩)] w fun e w' => e = .returned (.int .i64 0) ∧ w = w' := by
  have := DPending [] [] h
  rw [(fixed_facts.2.2.2.2.2.2.2.2.2.2.2.2.2.2.2.2.2.1 : _)] at this
  exact this
theorem fc19 {B g : Nat} {W w : World} (h : Disks B W w [(g, fd10)]) : Calls Try.prog 31 #[.pointer (some ⟨g, 0, none⟩)] w fun e w' => e = .returned (.int .i64 2) ∧ w = w' := by
  have := DLen [] [] h
  rw [(fixed_facts.2.2.2.2.2.2.2.2.2.2.2.2.2.2.2.2.2.2.1 : _)] at this
  exact this
theorem fc20 {B g : Nat} {W w : World} (h : Disks B W w [(g, fd10)]) : Calls Try.prog 12 #[.pointer (some ⟨g, 0, none⟩), .int .i64 1, .string fixE] w fun e w' => e = .returned (.int .i64 0) ∧ Disks B W w' [(g, fd11)] := by
  have := DWrite [] [] h 1 fixE fixed_short.2.2.2.2.2.2.2.2.2.2
  rw [(fixed_facts.2.2.2.2.2.2.2.2.2.2.2.2.2.2.2.2.2.2.2 : _)] at this
  exact this
theorem fullA (w : World) : Calls Try.prog 11 #[.string ⟨#[97]⟩] w fun e w' => e = .returned (.string fixA) ∧ w = w' := Full_any _ w (by decide)
theorem fullB (w : World) : Calls Try.prog 11 #[.string ⟨#[98]⟩] w fun e w' => e = .returned (.string fixB) ∧ w = w' := Full_any _ w (by decide)
theorem fullC (w : World) : Calls Try.prog 11 #[.string ⟨#[99]⟩] w fun e w' => e = .returned (.string fixC) ∧ w = w' := Full_any _ w (by decide)
theorem fullX (w : World) : Calls Try.prog 11 #[.string ⟨#[120]⟩] w fun e w' => e = .returned (.string fixX) ∧ w = w' := Full_any _ w (by decide)
theorem fullD (w : World) : Calls Try.prog 11 #[.string ⟨#[100]⟩] w fun e w' => e = .returned (.string fixD) ∧ w = w' := Full_any _ w (by decide)
theorem fullE (w : World) : Calls Try.prog 11 #[.string ⟨#[101]⟩] w fun e w' => e = .returned (.string fixE) ∧ w = w' := Full_any _ w (by decide)
theorem fcL {B g : Nat} {W w : World} (h : Disks B W w [(g, fd6)]) : Calls Try.prog 18 #[.pointer (some ⟨g, 0, none⟩), .int .i64 0] w fun e w' => e = .returned (.tuple #[]) ∧ Disks B W w' [(g, fd7)] := DLimit [] [] h 0
/-- A new block of bools: apart from all that lay before it. -/
theorem Bools.new (w : World) (S : Nat → Prop) (x y : Bool) (t : TypeId) (hS : ¬ S w.heap.size) : Bools (w.alloc (.cells #[.bool x, .bool y] t)) S (some ⟨w.heap.size, 0, none⟩) 2 [x, y] := by
  refine ⟨rfl, fun k hk => ⟨_, rfl, by rw [block_of_add]; exact hS, ?_⟩⟩
  have : (Addr.mk w.heap.size 0 none).add k = ⟨w.heap.size, k, none⟩ := by unfold Addr.add; split <;> simp_all
  rw [this, (Blk.new w t #[.bool x, .bool y]).cell]
  match k, hk with
  | 0, _ => rfl
  | 1, _ => rfl
theorem fcC {B g : Nat} {W w : World} (h : Disks B W w [(g, fd9)]) : Calls Try.prog 15 #[.pointer (some ⟨g, 0, none⟩), .slice (some ⟨w.heap.size, 0, none⟩) 2 2, .int .i64 0, .int .i64 3] (w.alloc (.cells #[.bool false, .bool true] 4)) fun e w' => e = .returned (.tuple #[]) ∧ Disks B W w' [(g, fd10)] := by
  obtain ⟨b0, v0, hD0, _⟩ := Disks.split (pre := []) (post := []) h
  refine DCrash [] [] (h.alloc _) _ 2 2 [false, true] 0 3 fixed_good fixed_short.2.2.2.2.2.2.2.2.2.1 (fun b v hD _ => Bools.new w _ _ _ _ fun hk => ?_)
  have hg := hD0.blk
  have h1 := (hD0.alloc (.cells #[.bool false, .bool true] 4)).blk
  have h2 := hD.blk
  unfold Blk at h1 h2
  rw [h1] at h2
  simp only [Option.some.injEq, Obj.cells.injEq] at h2
  have h3 := h2.1
  simp at h3
  rw [← h3.1, ← h3.2] at hk
  have := hD0.lt hk
  omega
set_option maxRecDepth 100000 in
set_option maxHeartbeats 8000000 in
theorem fixed_all (w : World) : Calls Try.prog 17 #[] w fun e w' => e = .returned (.bool true) ∧ Below w.heap.size w w' := by
  have hst := Disks.start w
  go_enter Try.func17, Try.ntmps17
  go_wp2_with fail
  refine (DNew hst 2 (by omega) (by omega)).mono ?_
  rintro e w1 ⟨g, rfl, hD, _⟩
  replace hD : Disks w.heap.size w w1 [(g, fd0)] := hD
  go_wp2_with fail
  refine (DNewBad hD 0 (by omega)).mono ?_
  clear hD hst
  rintro e w2 ⟨rfl, hD⟩
  go_wp2_with (first | (go_at_call 12; with_reducible refine (fc1 hD).mono ?_; clear hD; rintro e w' ⟨rfl, hD⟩) | (go_at_call 12; with_reducible refine (fc3 hD).mono ?_; clear hD; rintro e w' ⟨rfl, hD⟩) | (go_at_call 12; with_reducible refine (fc4 hD).mono ?_; clear hD; rintro e w' ⟨rfl, hD⟩) | (go_at_call 12; with_reducible refine (fc5 hD).mono ?_; clear hD; rintro e w' ⟨rfl, hD⟩) | (go_at_call 12; with_reducible refine (fc6 hD).mono ?_; clear hD; rintro e w' ⟨rfl, hD⟩) | (go_at_call 12; with_reducible refine (fc10 hD).mono ?_; clear hD; rintro e w' ⟨rfl, hD⟩) | (go_at_call 12; with_reducible refine (fc20 hD).mono ?_; clear hD; rintro e w' ⟨rfl, hD⟩) | (go_at_call 13; with_reducible refine (fc2 hD).mono ?_; clear hD; rintro e w' ⟨rfl, hD⟩) | (go_at_call 13; with_reducible refine (fc11 hD).mono ?_; clear hD; rintro e w' ⟨rfl, hD⟩) | (go_at_call 16; with_reducible refine (fc7 hD).mono ?_; clear hD; rintro e w' ⟨rfl, hD⟩) | (go_at_call 16; with_reducible refine (fc12 hD).mono ?_; clear hD; rintro e w' ⟨rfl, hD⟩) | (go_at_call 16; with_reducible refine (fc14 hD).mono ?_; clear hD; rintro e w' ⟨rfl, hD⟩) | (go_at_call 16; with_reducible refine (fc16 hD).mono ?_; clear hD; rintro e w' ⟨rfl, hD⟩) | (go_at_call 14; with_reducible refine (fc9 hD).mono ?_; rintro e w' ⟨rfl, rfl⟩) | (go_at_call 14; with_reducible refine (fc18 hD).mono ?_; rintro e w' ⟨rfl, rfl⟩) | (go_at_call 31; with_reducible refine (fc19 hD).mono ?_; rintro e w' ⟨rfl, rfl⟩) | (go_at_call 11; with_reducible refine (fullA _).mono ?_; rintro e w' ⟨rfl, rfl⟩) | (go_at_call 11; with_reducible refine (fullB _).mono ?_; rintro e w' ⟨rfl, rfl⟩) | (go_at_call 11; with_reducible refine (fullC _).mono ?_; rintro e w' ⟨rfl, rfl⟩) | (go_at_call 11; with_reducible refine (fullX _).mono ?_; rintro e w' ⟨rfl, rfl⟩) | (go_at_call 11; with_reducible refine (fullD _).mono ?_; rintro e w' ⟨rfl, rfl⟩) | (go_at_call 11; with_reducible refine (fullE _).mono ?_; rintro e w' ⟨rfl, rfl⟩) | (go_at_call 18; with_reducible refine (fcL hD).mono ?_; clear hD; rintro e w' ⟨rfl, hD⟩) | (go_at_call 15; with_reducible refine (fcC hD).mono ?_; clear hD; rintro e w' ⟨rfl, hD⟩))
  go_ret
  exact ⟨rfl, hD.base⟩
end Go.Proofs.Ytofoneapfokdjaa
