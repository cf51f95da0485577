/- What the laws of this seat lean on, part 23. -/
import Derived.Test.YthlbciinpidedaaGreatZK22
import Derived.Test.YthlbciinpidedaaGreatZK1
/- law09's fixed calls, walked. -/
namespace Go.Proofs.YthlbciinpidedaaGreat
set_option linter.unusedSimpArgs false
set_option linter.unusedVariables false
set_option maxRecDepth 100000
open Go.RowKit
attribute [local go_sem high] run_mx run_mn
attribute [local go_sem] run_store_flt
abbrev cZ : Cnf := ⟨0, 0, 0, 0⟩
theorem cF_may : cF.may = true := by decide
theorem cF_sec : cF.sectors = 14 := by decide
theorem recOf_fitsL (s : LSt) (hs : s.Ok) (id : ByteArray) (ver : Int) (hv : 0 ≤ ver ∧ ver < 18446744073709551616) (hid : id.size ≤ 16) : (s.recOf 1 (liveR id ver)).Fits := by
  have hl := hs.lsn
  exact ⟨by show 0 ≤ s.lsn ∧ s.lsn < _; omega, by show (0 : Int) ≤ 1 ∧ (1 : Int) < _; omega, by show (-9223372036854775808 : Int) ≤ 1 ∧ (1 : Int) ≤ 9223372036854775807; omega, hv, by show (0 : Int) ≤ 9 ∧ (9 : Int) < _; omega, by show id.size ≤ _; omega, by show (1 : Nat) ≤ _; omega⟩
set_option maxHeartbeats 16000000 in
theorem fixed_any (w : World) : Calls Tryz.prog 12 #[] w fun e w' => e = .returned (.bool true) ∧ Newer w w' := by
  have hm1 := fun v => made_ok 14 cF (by decide) cF_may (by rw [cF_sec]; decide) (by decide) v
  have hm2 := fun v => made_full 13 cF (by decide) cF_may (by rw [cF_sec]; decide) (by decide) (by decide) v
  have hm3 := fun v => made_arg 14 cZ (by decide) (by decide) (by decide) (by decide) v
  have hlv := live_any
  have hap1 := fun g gd AO cO AL cL AF cF v (M : List Thing) (h : Now (fun _ => False) w v (fs0.parts g gd 1 AO cO AL cL AF cF ++ M)) => Append_any fs0 fs0_ok (seal_ok fs0_ok 1 (by decide) (by show fD0.pend.length + 1 ≤ _; rw [fD0_is.2.2]; decide)) g gd (by decide) (liveR bA 1) (recOf_fitsL _ fs0_ok _ _ (by decide) (by decide)) AO cO AL cL AF cF h
  have hap2 := fun g gd AO cO AL cL AF cF v (M : List Thing) (h : Now (fun _ => False) w v (fs1.parts g gd 1 AO cO AL cL AF cF ++ M)) => Append_any fs1 fs1_ok (seal_ok fs1_ok 1 (by decide) (Nat.le_trans (Nat.succ_le_succ (show fD1.pend.length ≤ 10 by unfold fD1; rw [pend_write, fD0_is.2.2]; decide)) (by decide))) g gd (by decide) (liveR bB 2) (recOf_fitsL _ fs1_ok _ _ (by decide) (by decide)) AO cO AL cL AF cF h
  have hap3 := fun g gd AO cO AL cL AF cF v (M : List Thing) (h : Now (fun _ => False) w v (fs2.parts g gd 1 AO cO AL cL AF cF ++ M)) => Append_any fs2 fs2_ok (seal_ok fs2_ok 1 (by decide) (Nat.le_trans (Nat.succ_le_succ (show fD2.pend.length ≤ 10 by unfold fD2 fD1; rw [pend_write, pend_write, fD0_is.2.2]; decide)) (by decide))) g gd (by decide) (liveR bC 3) (recOf_fitsL _ fs2_ok _ _ (by decide) (by decide)) AO cO AL cL AF cF h
  have hap4 := fun g gd AO cO AL cL AF cF v (M : List Thing) (h : Now (fun _ => False) w v (fs3.parts g gd 1 AO cO AL cL AF cF ++ M)) => Append_any fs3 fs3_ok (seal_ok fs3_ok 1 (by decide) (Nat.le_trans (Nat.succ_le_succ (show fD3.pend.length ≤ 10 by rw [fD3_is.2.2]; decide)) (by decide))) g gd (by decide) footRec (by constructor <;> decide) AO cO AL cL AF cF h
  have hrd5 := fun g gd AO cO AL cL AF cF v (M : List Thing) (h : Now (fun _ => False) w v (fs3.parts g gd 1 AO cO AL cL AF cF ++ M)) => Read_any fs3 fs3_ok g gd 1 1 0 AO cO AL cL AF cF h
  have hrd6 := fun g gd AO cO AL cL AF cF v (M : List Thing) (h : Now (fun _ => False) w v (fs3.parts g gd 1 AO cO AL cL AF cF ++ M)) => Read_any fs3 fs3_ok g gd 1 0 2 AO cO AL cL AF cF h
  simp only [fa1] at hap1
  simp only [fa2] at hap2
  simp only [fa3] at hap3
  simp only [fx4] at hap4
  simp only [fr3] at hrd5
  simp only [fr4] at hrd6
  have e3 : (liveAt 4 bC 3).value = .agg #[.int .u64 4, .int .u32 1, .int .i64 1, .int .u64 3, .int .u64 9, .string ⟨#[99]⟩, .string ⟨#[118]⟩] := rfl
  have e4 : noRec.value = .agg #[.int .u64 0, .int .u32 0, .int .i64 0, .int .u64 0, .int .u64 0, .string ⟨#[]⟩, .string ⟨#[]⟩] := rfl
  have e5 : (footR 3 1 1).value = .agg #[.int .u64 3, .int .u32 1, .int .i64 3, .int .u64 0, .int .u64 1, .string ⟨#[]⟩, .string ⟨#[]⟩] := rfl
  simp only [e3] at hrd5
  simp only [e4] at hrd6
  have hdR := fun gd v (pre post : List Thing) (h : Now (fun _ => False) w v (pre ++ dskT gd fD3 :: post)) => Loc.atZ (LRead gd fD3 4 (by rw [fD3_is.2.2]; decide)) pre post h
  simp only [ff.1, ff.2] at hdR
  have hdF := fun v => RDecode_any (footR 3 1 1).sector v
  simp only [fdec, e5] at hdF
  generalize (footR 3 1 1).sector = SF at *
  have hpn := fun gd v (pre post : List Thing) (h : Now (fun _ => False) w v (pre ++ dskT gd fD3 :: post)) => NPending gd fD3 v _ (Now.get h).choose_spec
  rw [fD3_is.2.2] at hpn
  have hdb := fun g gd AO cO AL cL AF cF v (M : List Thing) (h : Now (fun _ => False) w v (fs3.parts g gd 1 AO cO AL cL AF cF ++ M)) => LDrop_bad g gd fs3.T fs3_ok.t AO cO AL cL AF cF 5 1 1 1 3 fD3 (by decide) h
  have hdo : ∀ g gd AO cO AL cL AF cF v (M : List Thing) (h : Now (fun _ => False) w v (fs3.parts g gd 1 AO cO AL cL AF cF ++ M)), Calls Tryz.prog 21 #[.pointer (some ⟨g, 0, none⟩), .int .i64 0, .int .u64 3] v fun e w' => e = .returned (.int .i64 0) ∧ GotLog (fun _ => False) w w' fs5 g gd 1 M := fun g gd AO cO AL cL AF cF v M h => by
    have hk : ckDo fD3 1 ⟨((fs3.T.drop 0).chk (1 + 1) 1 5 3).enc.toArray⟩ = (0, 2, fD5) := fk3
    have h1 := LDrop_ok g gd fs3.T fs3_ok.t AO cO AL cL AF cF 5 1 1 0 3 fD3 (by rw [fD3_is.2.2]; decide) (by decide) (by decide) (by decide) (by decide) 0 (by decide) (by decide) h
    rw [hk] at h1
    exact h1
  have hdR5 := fun gd v (pre post : List Thing) (h : Now (fun _ => False) w v (pre ++ dskT gd fD5 :: post)) => Loc.atZ (LRead gd fD5 0 (by unfold fD5; rw [(flush_is _).2.2]; decide)) pre post h
  simp only [fd5.1, fd5.2] at hdR5
  have hdk : ∀ v, Calls Tryz.prog 52 #[.string fE5] v fun e w' => ∃ AO cO AL cL, e = .returned (.tuple #[.agg #[.int .u64 2, .int .u32 1, .int .u64 5, .int .u64 3, .slice AO 1 cO, .slice AL 1 cL], .int .i64 0]) ∧ Sep v w' [Thing.row 3 1 (.slice AO 1 cO) 1 (ints [1]), Thing.row 3 1 (.slice AL 1 cL) 1 (ints [1])] := fun v => by
    have h1 := Decode_chk fE5 v
    unfold DecOut at h1
    rw [fdecC] at h1
    exact h1
  generalize fE5 = E5 at *
  unfold liveR Rec.value bA at hap1
  unfold liveR Rec.value bB at hap2
  unfold liveR Rec.value bC at hap3
  unfold footRec Rec.value at hap4
  unfold liveR Rec.value at hlv
  have hS1 := Now.pushCells (Sep.start w) 24 cF.cells
  go_enter Tryz.func12, Tryz.ntmps12
  go_wp2_with (first
    | (have _g := hm1; go_at_call 13; refine (hm1 _).mono ?_; rintro e w1 ⟨g, gd, rfl, A1, k1, A2, k2, A3, k3, hO⟩; have hC : Now (fun _ => False) w w1 (fs0.parts g gd 1 A1 k1 A2 k2 A3 k3 ++ [Thing.cells w.heap.size 24 cF.cells]) := Now.pushAll hS1 hO; have hc := Now.blk (pre := [_, _, _, _, _]) hC; have c0 : w1.cell? ⟨w.heap.size, 0, none⟩ = some (Value.int .i64 4) := hc.cell 0; have c1 : w1.cell? ⟨w.heap.size, 1, none⟩ = some (Value.int .i64 2) := hc.cell 1; have c2 : w1.cell? ⟨w.heap.size, 2, none⟩ = some (Value.float .f64 4607182418800017408) := hc.cell 2; have c3 : w1.cell? ⟨w.heap.size, 3, none⟩ = some (Value.int .i64 0) := hc.cell 3; clear hS1 hO hm1 hc _g)
    | (have _g := hm2; go_at_call 13; refine (hm2 _).mono ?_; rintro e w2 ⟨gd2, rfl, hB⟩; replace hC := Now.below hC hB; clear hm2 hB c0 c1 c2 c3 _g)
    | (have _g := hm3; go_at_call 13; refine (hm3 _).mono ?_; rintro e w3 ⟨gd3, rfl, hB⟩; replace hC := Now.below hC hB; clear hm3 hB _g)
    | (go_at_call 18; (with_reducible refine (hlv _ _ _).mono ?_); rintro e wl ⟨rfl, hB⟩; replace hC := Now.below hC hB; clear hB)
    | (have _g := hap1; go_at_call 16; have hap := hap1 g gd A1 k1 A2 k2 A3 k3 _ _ hC; clear hap1 hC _g; refine hap.mono ?_; clear hap; rintro e w4 ⟨rfl, A1, k1, A2, k2, A3, k3, hC⟩; replace hC := Now.perm (Now.pushCells hC 36 #[.int .i64 0, .int .i64 0]) List.perm_middle.symm)
    | (have _g := hap2; go_at_call 16; have hap := hap2 g gd A1 k1 A2 k2 A3 k3 _ _ hC; clear hap2 hC _g; refine hap.mono ?_; clear hap; rintro e w5 ⟨rfl, A1, k1, A2, k2, A3, k3, hC⟩; replace hC := Now.perm (Now.pushCells hC 36 #[.int .i64 0, .int .i64 1]) List.perm_middle.symm)
    | (have _g := hap3; go_at_call 16; have hap := hap3 g gd A1 k1 A2 k2 A3 k3 _ _ hC; clear hap3 hC _g; refine hap.mono ?_; clear hap; rintro e w6 ⟨rfl, A1, k1, A2, k2, A3, k3, hC⟩; replace hC := Now.perm (Now.pushCells hC 36 #[.int .i64 1, .int .i64 0]) List.perm_middle.symm)
    | (have _g := hap4; go_at_call 16; have hap := hap4 g gd A1 k1 A2 k2 A3 k3 _ _ hC; clear hap4 hC _g; refine hap.mono ?_; clear hap; rintro e w7 ⟨rfl, A1, k1, A2, k2, A3, k3, hC⟩; replace hC := Now.perm (Now.pushCells hC 36 #[.int .i64 0, .int .i64 0]) List.perm_middle.symm; have hxb := Now.blk (pre := [_, _, _, _, _, _]) hC; have x0 : _ = some (Value.int .i64 1) := hxb.cell 0; have x1 : _ = some (Value.int .i64 0) := hxb.cell 1; clear hxb)
    | (have _g := hrd5; go_at_call 24; have hap := hrd5 g gd A1 k1 A2 k2 A3 k3 _ _ hC; clear hrd5 hC _g x0 x1; refine hap.mono ?_; clear hap; rintro e w8 ⟨rfl, hC⟩; replace hC := Now.perm (Now.pushCells hC 42 #[.int .u64 4, .int .u32 1, .int .i64 1, .int .u64 3, .int .u64 9, .string ⟨#[99]⟩, .string ⟨#[118]⟩]) List.perm_middle.symm)
    | (have _g := hrd6; go_at_call 24; have hap := hrd6 g gd A1 k1 A2 k2 A3 k3 _ _ hC; clear hrd6 hC _g; refine hap.mono ?_; clear hap; rintro e w9 ⟨rfl, hC⟩; replace hC := Now.perm (Now.pushCells hC 42 #[.int .u64 0, .int .u32 0, .int .i64 0, .int .u64 0, .int .u64 0, .string ⟨#[]⟩, .string ⟨#[]⟩]) List.perm_middle.symm)
    | (have _g := hdR; go_at_call 43; have hap := hdR gd _ [_, _, _, _] _ hC; clear hdR hC _g; refine hap.mono ?_; clear hap; rintro e w10 ⟨rfl, _, hC⟩)
    | (have _g := hdF; go_at_call 51; (with_reducible refine (hdF _).mono ?_); rintro e w11 ⟨rfl, hB⟩; replace hC := Now.perm (Now.pushCells (show Now (fun _ => False) w w11 (fs3.parts g gd 1 A1 k1 A2 k2 A3 k3 ++ _) from Now.below hC hB) 42 #[.int .u64 3, .int .u32 1, .int .i64 3, .int .u64 0, .int .u64 1, .string ⟨#[]⟩, .string ⟨#[]⟩]) List.perm_middle.symm; clear hdF hB _g)
    | (have _g := hpn; go_at_call 17; refine (hpn gd _ [_, _, _, _] _ hC).mono ?_; rintro e w12 ⟨rfl, hB⟩; replace hC := Now.below hC hB; clear hpn hB _g)
    | (have _g := hdb; go_at_call 21; have hap := hdb g gd A1 k1 A2 k2 A3 k3 _ _ hC; clear hdb hC _g; refine hap.mono ?_; clear hap; rintro e w13 ⟨rfl, hC⟩)
    | (have _g := hdo; go_at_call 21; have hap := hdo g gd A1 k1 A2 k2 A3 k3 _ _ hC; clear hdo hC _g; refine hap.mono ?_; clear hap; rintro e w14 ⟨rfl, A1, k1, A2, k2, A3, k3, hC⟩)
    | (have _g := hdR5; go_at_call 43; have hap := hdR5 gd _ [_, _, _, _] _ hC; clear hdR5 hC _g; refine hap.mono ?_; clear hap; rintro e w15 ⟨rfl, _, hC⟩)
    | (have _g := hdk; go_at_call 52; (with_reducible refine (hdk _).mono ?_); rintro e w16 ⟨B1, j1, B2, j2, rfl, hO⟩; replace hC := Now.pushCells (Now.pushAll hC hO) 102 #[.int .u64 2, .int .u32 1, .int .u64 5, .int .u64 3, .slice B1 1 j1, .slice B2 1 j2]; clear hdk hO _g;
        have hy := Now.blk (pre := []) hC; have y0 : _ = some (Value.int .u64 2) := hy.cell 0; have y2 : _ = some (Value.int .u64 5) := hy.cell 2; have y3 : _ = some (Value.int .u64 3) := hy.cell 3; have y4 : _ = some (Value.slice B1 1 j1) := hy.cell 4; have y5 : _ = some (Value.slice B2 1 j2) := hy.cell 5;
        have hf := Now.blk (pre := [_, _, _, _, _, _, _, _]) hC; have f0 : _ = some (Value.int .u64 3) := hf.cell 0; have f2 : _ = some (Value.int .i64 3) := hf.cell 2; have f4 : _ = some (Value.int .u64 1) := hf.cell 4;
        have hr := Now.blk (pre := [_, _, _, _, _, _, _, _, _, _]) hC; have r0 : _ = some (Value.int .u64 4) := hr.cell 0; have r5 : _ = some (Value.string ⟨#[99]⟩) := hr.cell 5;
        have hx := Now.blk (pre := [_, _, _, _, _, _, _, _, _, _, _, _]) hC; have x0 : _ = some (Value.int .i64 1) := hx.cell 0; have x1 : _ = some (Value.int .i64 0) := hx.cell 1;
        have hb := Now.blk (pre := [_, _, _, _, _, _, _, _, _, _, _, _, _]) hC; have b0 : _ = some (Value.int .i64 0) := hb.cell 0; have b1 : _ = some (Value.int .i64 1) := hb.cell 1;
        have ha := Now.blk (pre := [_, _, _, _, _, _, _, _, _, _, _, _, _, _]) hC; have a0 : _ = some (Value.int .i64 0) := ha.cell 0; have a1 : _ = some (Value.int .i64 0) := ha.cell 1; clear hy hf hr hx hb ha; have HI1 := (trivial : True))
    | (have _g := HI1; go_at_call 47; have hI := Now.pushRow hC 3 #[.int .i64 1] (by simp [maxLen]); simp only [World.size_alloc] at hI; have hi := Ints_any [1] [1] B1 (some ⟨w16.heap.size + 1, 0, none⟩) j1 1 (by decide) (by decide) _ (Reads.of_own (Now.row (pre := [_, _]) hI)) (Reads.of_own (Now.row (pre := []) hI)); refine hi.mono ?_; clear hi hC y0 y2 y3 y4 y5 f0 f2 f4 r0 r5 x0 x1 b0 b1 a0 a1 HI1 _g; rintro e w17 ⟨rfl, hB⟩; have hC := Now.below hI hB; clear hI hB; have hy := Now.blk (pre := [_]) hC; have y5 : w17.cell? _ = some (Value.slice B2 1 j2) := hy.cell 5; clear hy; have HI2 := (trivial : True))
    | (have _g := HI2; go_at_call 47; have hI := Now.pushRow hC 3 #[.int .i64 1] (by simp [maxLen]); have hi := Ints_any [1] [1] B2 (some ⟨w17.heap.size, 0, none⟩) j2 1 (by decide) (by decide) _ (Reads.of_own (Now.row (pre := [_, _, _, _]) hI)) (Reads.of_own (Now.row (pre := []) hI)); refine hi.mono ?_; clear hi hC y5 HI2 _g; rintro e w18 ⟨rfl, hB⟩; have hC := Now.below hI hB; clear hI hB; obtain ⟨t1, rfl, _, _⟩ := read_cell (k := 0) (u := .int .i64 1) (Reads.of_own (Now.row (pre := [_, _, _, _, _, _]) hC)) (by decide) rfl; obtain ⟨t2, rfl, _, _⟩ := read_cell (k := 0) (u := .int .i64 1) (Reads.of_own (Now.row (pre := [_, _, _, _, _, _, _]) hC)) (by decide) rfl; obtain ⟨t3, rfl, _, _⟩ := read_cell (k := 0) (u := .int .u64 4) (Reads.of_own (Now.row (pre := [_, _, _, _, _, _, _, _]) hC)) (by decide) rfl)
    | (go_at_call 41; (with_reducible refine (Gen_any g gd fT5 _ k1 _ k2 _ k3 5 1 2 _ (Now.blk (pre := [_, _, _, _, _]) hC)).mono ?_); rintro e w19 ⟨rfl, rfl⟩)
    | (go_at_call 20; (with_reducible refine (LSN_any g gd fT5 _ k1 _ k2 _ k3 5 1 2 _ (Now.blk (pre := [_, _, _, _, _]) hC)).mono ?_); rintro e w19 ⟨rfl, rfl⟩)
    | (go_at_call 40; (with_reducible refine (Epoch_any g gd fT5 _ k1 _ k2 _ k3 5 1 2 _ (Now.blk (pre := [_, _, _, _, _]) hC)).mono ?_); rintro e w19 ⟨rfl, rfl⟩)
    | (go_at_call 23; refine (Table_any g gd fT5 fT5_ok t1 k1 t2 k2 t3 k3 5 1 2 _ (Now.blk (pre := [_, _, _, _, _]) hC) (tabIn_of (pre := [_, _, _, _, _, _]) hC)).mono ?_; rintro e w20 ⟨C1, m1, C2, m2, C3, m3, rfl, hO⟩; replace hC := Now.pushAll hC hO; clear hO)
    | (go_at_call 26; (with_reducible refine (LRef_any fT5 C1 m1 C2 m2 C3 m3 _).mono ?_); rintro e w21 ⟨rfl, hB⟩; replace hC := Now.below hC hB; clear hB)
    | (go_at_call 42; have hI := Now.pushRow (Now.pushRow (Now.pushRow hC 3 #[.int .i64 1] (by simp [maxLen])) 3 #[.int .i64 1] (by simp [maxLen])) 39 #[.int .u64 4] (by simp [maxLen]); simp only [World.size_alloc] at hI; refine (Same_yes fT5 fT5_ok.short C1 C2 C3 (some ⟨w21.heap.size, 0, none⟩) (some ⟨w21.heap.size + 1, 0, none⟩) (some ⟨w21.heap.size + 1 + 1, 0, none⟩) m1 m2 m3 1 1 1 _ (tabIn_of (pre := [_, _, _]) hI) ⟨Reads.of_own (Now.row (pre := [_, _]) hI), Reads.of_own (Now.row (pre := [_]) hI), Reads.of_own (Now.row (pre := []) hI)⟩).mono ?_; clear hC; rintro e w22 ⟨rfl, hB⟩; have hC := Sep.base (Now.below hI hB); clear hI hB))
  go_ret
  exact ⟨rfl, hC⟩
end Go.Proofs.YthlbciinpidedaaGreat
/- How a struct of plain fields among a law's arguments is opened for its walk. No program in sight. -/
namespace Go.Proofs.YthlbciinpidedaaGreat
set_option linter.unusedSimpArgs false
set_option linter.unusedVariables false
set_option maxRecDepth 100000
open Go.ChangeShapes Go.WideShapes Go.ChangeAt Go.RowKit Go.Deep

/-- A field's kind. -/
inductive FK where
  | int (k : IntKind)
  | str
  | bool
  | flt
def FK.desc : FK → TypeDesc
  | .int k => .int k
  | .str => .string
  | .bool => .bool
  | .flt => .float .f64
def FK.Good : FK → Value → Prop
  | .int k, v => ∃ n, v = .int k n ∧ (Lit.int k n).wf = true
  | .str, v => ∃ s : ByteArray, v = .string s ∧ s.size ≤ maxLen
  | .bool, v => ∃ b, v = .bool b
  | .flt, v => ∃ b, v = .float .f64 b ∧ (Lit.float .f64 b).wf = true
def FlatP (P : Program) : Nat → List Field → List FK → Prop
  | _, [], [] => True
  | n, f :: fs, k :: ks => P.underlying f.type = some k.desc ∧ P.cellsOf f.type = 1 ∧ f.offset = n ∧ FlatP P (n + 1) fs ks
  | _, _, _ => False
section
variable {H : Type} {enc : TypeId × Value → H} {P : Program} {W : World} {b0 : Nat}
theorem trod_flt {t : TypeId} {fuel : Nat} {cs : List Value} {x : DataW H × List MemPlace} (ht : P.underlying t = some (.float .f64)) (h : DataW.trod enc P W 0 (fun _ => true) true fuel t cs = some x) : ∃ b, cs = [.float .f64 b] ∧ (Lit.float .f64 b).wf = true := by
  cases fuel with
  | zero => simp [DataW.trod] at h
  | succ n =>
    match cs, h with
    | [], h => simp [DataW.trod, ht] at h
    | [c], h =>
      cases c with
      | float k b =>
        cases k with
        | f64 =>
          by_cases hw : (Lit.float .f64 b).wf = true
          · exact ⟨b, rfl, hw⟩
          · simp [DataW.trod, ht, hw] at h
        | f32 => simp [DataW.trod, ht] at h
      | _ => simp [DataW.trod, ht] at h
    | _ :: _ :: _, h => simp [DataW.trod, ht] at h
theorem trod_fk {k : FK} {t : TypeId} {fuel : Nat} {cs : List Value} {x : DataW H × List MemPlace} (hu : P.underlying t = some k.desc) (h : DataW.trod enc P W 0 (fun _ => true) true fuel t cs = some x) : ∃ v, cs = [v] ∧ k.Good v := by
  cases k with
  | int k => obtain ⟨n, e, _, w⟩ := DataW.trod_int hu h; exact ⟨_, e, n, rfl, w⟩
  | str => obtain ⟨s, e, _, w⟩ := DataW.trod_string hu h; exact ⟨_, e, s, rfl, w⟩
  | bool => obtain ⟨b, e, _⟩ := DataW.trod_bool hu h; exact ⟨_, e, b, rfl⟩
  | flt => obtain ⟨b, e, w⟩ := trod_flt hu h; exact ⟨_, e, b, rfl, w⟩
def GoodAll : List FK → List Value → Prop
  | [], [] => True
  | k :: ks, v :: vs => k.Good v ∧ GoodAll ks vs
  | _, _ => False
theorem GoodAll.cons {k : FK} {ks : List FK} {vs : List Value} (h : GoodAll (k :: ks) vs) : ∃ v us, vs = v :: us ∧ k.Good v ∧ GoodAll ks us := by
  cases vs with
  | nil => exact h.elim
  | cons v us => exact ⟨v, us, rfl, h.1, h.2⟩
theorem GoodAll.nil {vs : List Value} (h : GoodAll [] vs) : vs = [] := by
  cases vs with
  | nil => rfl
  | cons v us => exact h.elim
theorem flat_good : ∀ (fs : List Field) (ks : List FK) (n m : Nat) (cs : List Value), FlatP P n fs ks → cs.length = n + fs.length →
    (∀ (j : Nat) (f : Field), fs[j]? = some f → ∃ y, DataW.trod enc P W 0 (fun _ => true) true m f.type ((cs.drop f.offset).take (P.cellsOf f.type)) = some y) → GoodAll ks (cs.drop n)
  | [], [], n, m, cs, _, hl, _ => by
    rw [List.drop_of_length_le (by simpa using Nat.le_of_eq hl)]; exact trivial
  | f :: fs, k :: ks, n, m, cs, ⟨hu, hc, ho, hr⟩, hl, hf => by
    obtain ⟨y, hy⟩ := hf 0 f rfl
    rw [hc, ho] at hy
    obtain ⟨v, hv, hg⟩ := trod_fk hu hy
    have hlt : n < cs.length := by rw [hl]; simp
    have hd := List.drop_eq_getElem_cons hlt
    have : cs[n] = v := by
      rw [hd, List.take_succ_cons, List.take_zero] at hv
      injection hv
    rw [hd]
    rw [this]
    exact ⟨hg, flat_good fs ks (n + 1) m cs hr (by rw [hl]; simp; omega) (fun j f' hj => hf (j + 1) f' (by simpa using hj))⟩
  | [], _ :: _, _, _, _, h, _, _ => h.elim
  | _ :: _, [], _, _, _, h, _, _ => h.elim
/-- The argument is a struct of such fields. -/
theorem opened_flat {t : TypeId} {fs : Array Field} {ks : List FK} {v : Value} {d : DataW H} {ps : List MemPlace} (hu : P.underlying t = some (.struct fs)) (hk : FlatP P 0 fs.toList ks) (hn : P.cellsOf t = fs.toList.length)
    (hv : Value.okWide P W .any b0 t v) (h : DataW.Trod enc P W 0 (fun _ => true) true t v d ps) : ∃ vs : List Value, v = .agg vs.toArray ∧ GoodAll ks vs := by
  simp only [Value.okWide, hu] at hv
  obtain ⟨cs, rfl, _⟩ := hv
  obtain ⟨fuel, hf⟩ := h
  obtain ⟨xs, n, _, _, hl, hlen, hat⟩ := DataW.trod_struct hu hf
  refine ⟨cs.toList, by simp, ?_⟩
  have hl : cs.toList.length = P.cellsOf t := hl
  have := flat_good fs.toList ks 0 n cs.toList hk (by rw [hl, hn]; simp) (fun j f hj => by
    have hlt : j < xs.length := by
      rw [hlen]
      have := (List.getElem?_eq_some_iff.1 hj).1
      simpa using this
    exact ⟨xs[j], by
      have h2 := hat j f (by simpa using hj)
      rw [List.getElem?_eq_getElem hlt] at h2
      exact h2⟩)
  simpa using this
end
end Go.Proofs.YthlbciinpidedaaGreat
/- What the laws of the log use besides: how a conf among a law's arguments is opened. -/
namespace Go.Proofs.YthlbciinpidedaaGreat
set_option linter.unusedSimpArgs false
set_option linter.unusedVariables false
set_option maxRecDepth 100000
open Go.RowKit
structure Cnf.Wf (c : Cnf) : Prop where
  segs : -9223372036854775808 ≤ c.segs ∧ c.segs ≤ 9223372036854775807
  slots : -9223372036854775808 ≤ c.slots ∧ c.slots ≤ 9223372036854775807
  share : c.share < 18446744073709551616
  rate : -9223372036854775808 ≤ c.rate ∧ c.rate ≤ 9223372036854775807
section
open Go.ChangeShapes Go.WideShapes Go.ChangeAt Go.Deep
variable {H : Type} {enc : TypeId × Value → H} {W : World} {b0 : Nat}
theorem wf_f64 {b : Nat} (h : (Lit.float .f64 b).wf = true) : b < 18446744073709551616 := by
  simpa [Lit.wf] using h
set_option maxRecDepth 100000 in
theorem opened_Conf {v : Value} {d : DataW H} {ps : List MemPlace} (hv : Value.okWide Tryz.prog W .any b0 24 v) (h : DataW.Trod enc Tryz.prog W 0 (fun _ => true) true 24 v d ps) : ∃ c : Cnf, v = .agg c.cells ∧ c.Wf := by
  obtain ⟨vs, rfl, hg⟩ := opened_flat (P := Tryz.prog) (ks := [.int .i64, .int .i64, .flt, .int .i64]) Tryz.underlying24
    ⟨Tryz.underlying3, by kernel_rfl, rfl, Tryz.underlying3, by kernel_rfl, rfl, Tryz.underlying22, by kernel_rfl, rfl, Tryz.underlying3, by kernel_rfl, rfl, trivial⟩ (by kernel_rfl) hv h
  obtain ⟨_, _, rfl, ⟨a, rfl, ha⟩, hg1⟩ := hg.cons
  obtain ⟨_, _, rfl, ⟨b, rfl, hb⟩, hg2⟩ := hg1.cons
  obtain ⟨_, _, rfl, ⟨f, rfl, hf⟩, hg3⟩ := hg2.cons
  obtain ⟨_, _, rfl, ⟨e, rfl, he⟩, hg4⟩ := hg3.cons
  obtain rfl := hg4.nil
  exact ⟨⟨a, b, f, e⟩, rfl, bounds_i64 ha, bounds_i64 hb, wf_f64 hf, bounds_i64 he⟩
end
end Go.Proofs.YthlbciinpidedaaGreat
