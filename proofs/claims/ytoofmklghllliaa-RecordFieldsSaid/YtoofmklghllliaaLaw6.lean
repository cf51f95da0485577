/- What the laws of records use besides: Zero, Cut, Ref; how their arguments are opened. -/
import Derived.Test.YtoofmklghllliaaRef6b
import Derived.Test.YtoofmklghllliaaStructs
namespace Go.Proofs.Ytoofmklghllliaa
set_option linter.unusedSimpArgs false
set_option linter.unusedVariables false
open Go.RowKit
attribute [local go_sem high] run_mx run_mn

theorem infoRec : (Try.prog.info? 25).map (fun i => (i.zero, i.size)) = some (some (.agg #[.int .u64 0, .int .u32 0, .int .i64 0, .int .u64 0, .int .u64 0, .string ⟨#[]⟩, .string ⟨#[]⟩]), 7) := by kernel_rfl
section
open Go.ChangeShapes Go.WideShapes Go.ChangeAt Go.Deep
variable {H : Type} {enc : TypeId × Value → H} {W : World} {b0 : Nat}
theorem wf_u64 {n : Int} (h : (Lit.int .u64 n).wf = true) : 0 ≤ n ∧ n < 18446744073709551616 := by
  have := bounds_u64 h
  omega
theorem wf_u32 {n : Int} (h : (Lit.int .u32 n).wf = true) : 0 ≤ n ∧ n < 4294967296 := by
  have := bounds_u32 h
  omega
set_option maxRecDepth 100000 in
theorem opened_Record {v : Value} {d : DataW H} {ps : List MemPlace} (hv : Value.okWide Try.prog W .any b0 25 v) (h : DataW.Trod enc Try.prog W 0 (fun _ => true) true 25 v d ps) : ∃ r : Rec, v = r.value ∧ r.Fits := by
  obtain ⟨vs, rfl, hg⟩ := opened_flat (P := Try.prog) (ks := [.int .u64, .int .u32, .int .i64, .int .u64, .int .u64, .str, .str]) Try.underlying25
    ⟨Try.underlying22, by kernel_rfl, rfl, Try.underlying23, by kernel_rfl, rfl, Try.underlying3, by kernel_rfl, rfl, Try.underlying22, by kernel_rfl, rfl, Try.underlying22, by kernel_rfl, rfl, Try.underlying9, by kernel_rfl, rfl, Try.underlying9, by kernel_rfl, rfl, trivial⟩ (by kernel_rfl) hv h
  obtain ⟨_, _, rfl, ⟨a, rfl, ha⟩, hg1⟩ := hg.cons
  obtain ⟨_, _, rfl, ⟨b, rfl, hb⟩, hg2⟩ := hg1.cons
  obtain ⟨_, _, rfl, ⟨c, rfl, hc⟩, hg3⟩ := hg2.cons
  obtain ⟨_, _, rfl, ⟨e, rfl, he⟩, hg4⟩ := hg3.cons
  obtain ⟨_, _, rfl, ⟨f, rfl, hf⟩, hg5⟩ := hg4.cons
  obtain ⟨_, _, rfl, ⟨s, rfl, hs⟩, hg6⟩ := hg5.cons
  obtain ⟨_, _, rfl, ⟨t, rfl, ht⟩, hg7⟩ := hg6.cons
  obtain rfl := hg7.nil
  exact ⟨⟨a, b, c, e, f, s, t⟩, rfl, wf_u64 ha, wf_u32 hb, bounds_i64 hc, wf_u64 he, wf_u64 hf, hs, ht⟩
set_option maxRecDepth 100000 in
theorem opened_Place {v : Value} {d : DataW H} {ps : List MemPlace} (hv : Value.okWide Try.prog W .any b0 27 v) (h : DataW.Trod enc Try.prog W 0 (fun _ => true) true 27 v d ps) :
    ∃ p : Int × Int, v = .agg #[.int .u64 p.1, .int .u32 p.2] ∧ (0 ≤ p.1 ∧ p.1 < 18446744073709551616) ∧ (0 ≤ p.2 ∧ p.2 < 4294967296) := by
  obtain ⟨vs, rfl, hg⟩ := opened_flat (P := Try.prog) (ks := [.int .u64, .int .u32]) Try.underlying27
    ⟨Try.underlying22, by kernel_rfl, rfl, Try.underlying23, by kernel_rfl, rfl, trivial⟩ (by kernel_rfl) hv h
  obtain ⟨_, _, rfl, ⟨a, rfl, ha⟩, hg1⟩ := hg.cons
  obtain ⟨_, _, rfl, ⟨b, rfl, hb⟩, hg2⟩ := hg1.cons
  obtain rfl := hg2.nil
  exact ⟨(a, b), rfl, wf_u64 ha, wf_u32 hb⟩
end

set_option maxRecDepth 100000 in
theorem Zero_any (w : World) : Calls Try.prog 20 #[] w fun e w' => e = .returned (.string (zeroB 128)) ∧ w = w' := by
  go_enter Try.func20, Try.ntmps20
  go_wp2
  go_loop [1, 2] (fun s i => ∃ k : Nat, k ≤ 128 ∧ i = .int .i64 k ∧ s = .string (zeroB k)) (fun _ i => 128 - (intOf i).toNat)
  case atStart => exact ⟨0, by omega, rfl, rfl⟩
  case round =>
    obtain ⟨k, hk, rfl, rfl⟩ := hrel
    by_cases hlt : k < 128
    · have hadd : (Op.stringOp .add (zeroB k) ⟨#[0]⟩).run Try.prog w = .ok (.string (zeroB (k + 1))) w := by
        rw [run_add _ _ (by rw [zeroB_size]; omega) (by show 1 ≤ 1000; omega), zeroB_succ]
      go_wp2
      go_round
      case rel => exact ⟨k + 1, by omega, by go_num, rfl⟩
      case measure => simp [intOf]; omega
    · obtain rfl : k = 128 := by omega
      go_wp2
      go_ret
      exact ⟨rfl, rfl⟩
/-- With texts of at most 80 bytes. -/
def cut80 (s : ByteArray) : ByteArray := s.extract 0 (min s.size 80)
def Rec.cut (r : Rec) : Rec := ⟨r.lsn, r.epoch, r.kind, r.ver, r.dl, cut80 r.id, cut80 r.val⟩
theorem Rec.cut_fits {r : Rec} (h : r.Fits) : r.cut.Fits :=
  ⟨h.lsn, h.epoch, h.kind, h.ver, h.dl, by show (ByteArray.extract _ _ _).size ≤ _; rw [ByteArray.size_extract]; omega, by show (ByteArray.extract _ _ _).size ≤ _; rw [ByteArray.size_extract]; omega⟩
set_option maxRecDepth 100000 in
set_option maxHeartbeats 4000000 in
theorem Cut_any (r : Rec) (w : World) : Calls Try.prog 9 #[r.value] w fun e w' => e = .returned r.cut.value ∧ Below w.heap.size w w' := by
  have m1 : (0 : Int) ≤ mn (r.id.size : Int) 80 := by rw [mn_def]; omega
  have m2 : mn (r.id.size : Int) 80 ≤ (r.id.size : Int) := by rw [mn_def]; omega
  have m3 : (0 : Int) ≤ mn (r.val.size : Int) 80 := by rw [mn_def]; omega
  have m4 : mn (r.val.size : Int) 80 ≤ (r.val.size : Int) := by rw [mn_def]; omega
  have e1 : (mn (r.id.size : Int) 80).toNat = min r.id.size 80 := by rw [mn_def]; omega
  have e2 : (mn (r.val.size : Int) 80).toNat = min r.val.size 80 := by rw [mn_def]; omega
  unfold Rec.cut cut80 Rec.value
  go_enter Try.func9, Try.ntmps9
  go_wp2_with fail
  have f1 : (min (r.id.size : Int) 80).toNat = min r.id.size 80 := by omega
  have f2 : (min (r.val.size : Int) 80).toNat = min r.val.size 80 := by omega
  rw [f1, f2]
  have h2 := Blk.new (w.alloc (.cells #[.int .u64 r.lsn, .int .u32 r.epoch, .int .i64 r.kind, .int .u64 r.ver, .int .u64 r.dl, .string (r.id.extract 0 (min r.id.size 80)), .string (r.val.extract 0 (min r.val.size 80))] 25)) 25 #[.int .u64 r.lsn, .int .u32 r.epoch, .int .i64 r.kind, .int .u64 r.ver, .int .u64 r.dl, .string (r.id.extract 0 (min r.id.size 80)), .string (r.val.extract 0 (min r.val.size 80))]
  refine bodyPost_ret (v := .agg #[.int .u64 r.lsn, .int .u32 r.epoch, .int .i64 r.kind, .int .u64 r.ver, .int .u64 r.dl, .string (r.id.extract 0 (min r.id.size 80)), .string (r.val.extract 0 (min r.val.size 80))]) ?_ rfl ⟨rfl, ((Below.refl _ _).alloc (Nat.le_refl _) _).alloc (by simp) _⟩
  exact results_cell_row rfl _ _ _ _ _ (0, 0) _ (by simp) h2 Try.underlying25 rfl (by kernel_rfl)
set_option maxRecDepth 100000 in
set_option maxHeartbeats 4000000 in
theorem Ref_any (r : Rec) (w : World) : Calls Try.prog 12 #[r.value] w fun e w' => e = .returned r.value ∧ Below w.heap.size w w' := by
  unfold Rec.value
  go_enter Try.func12, Try.ntmps12
  go_wp2_with fail
  have h2 := Blk.new (w.alloc (.cells #[.int .u64 r.lsn, .int .u32 r.epoch, .int .i64 r.kind, .int .u64 r.ver, .int .u64 r.dl, .string r.id, .string r.val] 25)) 33 #[.int .u64 r.lsn, .int .u32 r.epoch, .int .i64 r.kind, .int .u64 r.ver, .int .u64 r.dl, .string r.id, .string r.val]
  refine bodyPost_ret (v := .agg #[.int .u64 r.lsn, .int .u32 r.epoch, .int .i64 r.kind, .int .u64 r.ver, .int .u64 r.dl, .string r.id, .string r.val]) ?_ rfl ⟨rfl, ((Below.refl _ _).alloc (Nat.le_refl _) _).alloc (by simp) _⟩
  exact results_cell_row rfl _ _ _ _ _ (0, 0) _ (by simp) h2 Try.underlying33 rfl (by kernel_rfl)
/-- Decode's and Next's answers, as records and words. -/
def decD (s : ByteArray) : Rec := (decR s).getD noRec
def decE (s : ByteArray) : Int := if (decR s).isSome then 0 else 5
theorem decV_eq (s : ByteArray) : decV s = .tuple #[(decD s).value, .int .i64 (decE s)] := by
  unfold decV decD decE
  cases decR s <;> rfl
def nextD (s : ByteArray) (l ep : Int) : Rec := (nextR s l ep).getD noRec
theorem nextV_eq (s : ByteArray) (l ep : Int) : nextV s l ep = .tuple #[(nextD s l ep).value, .bool (nextR s l ep).isSome] := by
  unfold nextV nextD
  cases nextR s l ep <;> rfl
theorem RightN (r : Rec) (hr : r.Fits) (w : World) : Calls Try.prog 17 #[r.value] w fun e v => e = .returned (.bool r.right) ∧ Newer w v := Right_any r hr w
theorem RRightN (r : Rec) (hr : r.Fits) (w : World) : Calls Try.prog 18 #[r.value] w fun e v => e = .returned (.bool r.right) ∧ Newer w v := RRight_any r hr w
theorem RefN (r : Rec) (w : World) : Calls Try.prog 12 #[r.value] w fun e v => e = .returned r.value ∧ Newer w v := Ref_any r w
theorem Blk.on {w v : World} {g : Nat} {t : TypeId} {cs : Array Value} (h : Blk w g t cs) (o : Obj) (hB : Below (w.alloc o).heap.size (w.alloc o) v) : Blk v g t cs := (h.alloc o).below hB (h.alloc o).lt
theorem cells2 {v : World} {b : Nat} {t : TypeId} {x0 x1 : Value} (h : Blk v b t #[x0, x1]) : v.cell? ⟨b, 0, none⟩ = some x0 ∧ v.cell? ⟨b, 1, none⟩ = some x1 := ⟨h.cell 0, h.cell 1⟩
theorem cells7 {v : World} {b : Nat} {t : TypeId} {x0 x1 x2 x3 x4 x5 x6 : Value} (h : Blk v b t #[x0, x1, x2, x3, x4, x5, x6]) :
    v.cell? ⟨b, 0, none⟩ = some x0 ∧ v.cell? ⟨b, 1, none⟩ = some x1 ∧ v.cell? ⟨b, 2, none⟩ = some x2 ∧ v.cell? ⟨b, 3, none⟩ = some x3 ∧ v.cell? ⟨b, 4, none⟩ = some x4 ∧ v.cell? ⟨b, 5, none⟩ = some x5 ∧ v.cell? ⟨b, 6, none⟩ = some x6 := keep7 h (Below.refl _ _)
/-- With texts of at most 130 bytes. -/
def cut130 (s : ByteArray) : ByteArray := s.extract 0 (min s.size 130)
theorem set7N {W v : World} {b : Nat} {t : TypeId} {x0 x1 x2 x3 x4 x5 x6 : Value} (h : Blk v b t #[x0, x1, x2, x3, x4, x5, x6]) (hB : Newer W v) (hb : W.heap.size ≤ b) (y0 y1 y2 y3 y4 y5 y6 : Value) :
    Blk (((((((v.setCell ⟨b, 0, none⟩ y0).setCell ⟨b, 1, none⟩ y1).setCell ⟨b, 2, none⟩ y2).setCell ⟨b, 3, none⟩ y3).setCell ⟨b, 4, none⟩ y4).setCell ⟨b, 5, none⟩ y5).setCell ⟨b, 6, none⟩ y6) b t #[y0, y1, y2, y3, y4, y5, y6] ∧
    Newer W (((((((v.setCell ⟨b, 0, none⟩ y0).setCell ⟨b, 1, none⟩ y1).setCell ⟨b, 2, none⟩ y2).setCell ⟨b, 3, none⟩ y3).setCell ⟨b, 4, none⟩ y4).setCell ⟨b, 5, none⟩ y5).setCell ⟨b, 6, none⟩ y6) := set7 h hB hb y0 y1 y2 y3 y4 y5 y6
theorem far7 {v : World} {b g : Nat} {t : TypeId} {cs : Array Value} (h : Blk v g t cs) (hg : g ≠ b) (y0 y1 y2 y3 y4 y5 y6 : Value) :
    Blk (((((((v.setCell ⟨b, 0, none⟩ y0).setCell ⟨b, 1, none⟩ y1).setCell ⟨b, 2, none⟩ y2).setCell ⟨b, 3, none⟩ y3).setCell ⟨b, 4, none⟩ y4).setCell ⟨b, 5, none⟩ y5).setCell ⟨b, 6, none⟩ y6) g t cs :=
  ((((((h.far (p := ⟨b, 0, none⟩) hg y0).far (p := ⟨b, 1, none⟩) hg y1).far (p := ⟨b, 2, none⟩) hg y2).far (p := ⟨b, 3, none⟩) hg y3).far (p := ⟨b, 4, none⟩) hg y4).far (p := ⟨b, 5, none⟩) hg y5).far (p := ⟨b, 6, none⟩) hg y6
end Go.Proofs.Ytoofmklghllliaa
