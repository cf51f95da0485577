/- The contract of a law's act: one call of a log. -/
import Derived.Test.YthlbciinpidedaaGreatZK21
import Derived.Test.YthlbciinpidedaaGreatZRecs9
namespace Go.Proofs.YthlbciinpidedaaGreat
set_option linter.unusedSimpArgs false
set_option linter.unusedVariables false
set_option maxRecDepth 100000
open Go.RowKit
attribute [local go_sem high] run_mx run_mn
/-- A checkpoint, and a drop, whatever comes of them. -/
def LSt.ck (s : LSt) (epoch ver : Int) : Int × LSt := ((ckDo s.d s.gen ⟨(s.T.chk (s.gen + 1) epoch s.lsn ver).enc.toArray⟩).1, ⟨s.T, s.lsn, (ckDo s.d s.gen ⟨(s.T.chk (s.gen + 1) epoch s.lsn ver).enc.toArray⟩).2.1, (ckDo s.d s.gen ⟨(s.T.chk (s.gen + 1) epoch s.lsn ver).enc.toArray⟩).2.2⟩)
def LSt.drop (s : LSt) (epoch seg ver : Int) : Int × LSt :=
  if idx s.T.order seg < 0 ∨ idx s.T.order seg = (s.T.order.length - 1 : Nat) then (1, s)
  else LSt.ck ⟨s.T.drop (idx s.T.order seg).toNat, s.lsn, s.gen, s.d⟩ epoch ver
/-- What a log needs for so many calls more. -/
structure LSt.Fine (s : LSt) (k : Nat) : Prop where
  t : s.T.Ok
  lsn : 1 ≤ s.lsn ∧ s.lsn + 2 * k < 1000000
  gen : 0 ≤ s.gen ∧ s.gen + k < 1000000
  pend : s.d.pend.length + 2 * k ≤ 100000
section
variable {s : LSt} {k : Nat}
theorem LSt.Fine.ok (h : s.Fine k) : s.Ok := ⟨h.t, by have := h.lsn; omega, by have := h.gen; omega, by have := h.pend; omega⟩
theorem LSt.Fine.sealOk (h : s.Fine (k + 1)) (epoch : Int) : (s.seal epoch).2.Ok := seal_ok h.ok epoch (by have := h.lsn; omega) (by have := h.pend; omega)
theorem LSt.Fine.le (h : s.Fine (k + 1)) : s.Fine k := ⟨h.t, by have := h.lsn; omega, by have := h.gen; omega, by have := h.pend; omega⟩
theorem ck_grow (d : Dsk) (gen : Int) (x : ByteArray) : (gen ≤ (ckDo d gen x).2.1 ∧ (ckDo d gen x).2.1 ≤ gen + 1) ∧ (ckDo d gen x).2.2.pend.length ≤ d.pend.length + 1 := by
  have h1 := flush_pend d
  have h2 := write_pend d.flushS ((gen + 1) % 2) x
  have h3 := flush_pend (d.flushS.writeS ((gen + 1) % 2) x)
  unfold ckDo
  split
  · exact ⟨⟨Int.le_refl _, by show gen ≤ gen + 1; omega⟩, by show d.pend.length ≤ _; omega⟩
  split
  · exact ⟨⟨Int.le_refl _, by show gen ≤ gen + 1; omega⟩, by show d.flushS.pend.length ≤ _; omega⟩
  split
  · exact ⟨⟨Int.le_refl _, by show gen ≤ gen + 1; omega⟩, by show (d.flushS.writeS _ _).pend.length ≤ _; omega⟩
  · exact ⟨⟨by show gen ≤ gen + 1; omega, Int.le_refl _⟩, by show ((d.flushS.writeS _ _).flushS).pend.length ≤ _; omega⟩
theorem LSt.Fine.ck (h : s.Fine (k + 1)) (epoch ver : Int) : (s.ck epoch ver).2.Fine k := by
  have hg := ck_grow s.d s.gen ⟨(s.T.chk (s.gen + 1) epoch s.lsn ver).enc.toArray⟩
  have h1 := h.lsn
  have h2 := h.gen
  have h3 := h.pend
  refine ⟨h.t, ?_, ?_, ?_⟩
  · show 1 ≤ s.lsn ∧ s.lsn + 2 * k < 1000000
    omega
  · show 0 ≤ (ckDo _ _ _).2.1 ∧ (ckDo _ _ _).2.1 + k < 1000000
    omega
  · show (ckDo _ _ _).2.2.pend.length + 2 * k ≤ 100000
    omega
theorem drop_place (hT : s.T.Ok) {seg : Int} (hn : ¬ (idx s.T.order seg < 0 ∨ idx s.T.order seg = (s.T.order.length - 1 : Nat))) : (idx s.T.order seg).toNat + 1 < s.T.order.length ∧ idx s.T.order seg = ((idx s.T.order seg).toNat : Nat) := by
  have hp := hT.pos
  have h0 : 0 ≤ idx s.T.order seg := by omega
  have h1 := idx_some h0
  obtain ⟨h2, _⟩ := List.getElem?_eq_some_iff.1 h1
  omega
theorem LSt.Fine.drop (h : s.Fine (k + 1)) (epoch seg ver : Int) : (s.drop epoch seg ver).2.Fine k := by
  unfold LSt.drop
  split
  · exact h.le
  · rename_i hn
    refine LSt.Fine.ck (s := ⟨s.T.drop (idx s.T.order seg).toNat, s.lsn, s.gen, s.d⟩) ⟨s.T.drop_ok h.t _ (drop_place h.t hn).1, h.lsn, h.gen, h.pend⟩ epoch ver
theorem LSt.Fine.seal (h : s.Fine (k + 1)) (epoch : Int) : (s.seal epoch).2.T.Ok ∧ (1 ≤ (s.seal epoch).2.lsn ∧ (s.seal epoch).2.lsn + 1 + 2 * k < 1000000) ∧ (0 ≤ (s.seal epoch).2.gen ∧ (s.seal epoch).2.gen + k < 1000000) ∧ (s.seal epoch).2.d.pend.length + 1 + 2 * k ≤ 100000 := by
  have h1 := h.lsn
  have h2 := h.gen
  have h3 := h.pend
  refine ⟨(h.sealOk epoch).t, ?_⟩
  unfold LSt.seal
  split
  · exact ⟨⟨h1.1, by show s.lsn + 1 + 2 * k < _; omega⟩, ⟨h2.1, by show s.gen + k < _; omega⟩, by show s.d.pend.length + 1 + 2 * k ≤ _; omega⟩
  split
  · rename_i f l hf he
    have h4 := write_pend s.d s.T.at_ (footR s.lsn epoch f).sector
    exact ⟨⟨by show 1 ≤ s.lsn + 1; omega, by show s.lsn + 1 + 1 + 2 * k < _; omega⟩, ⟨h2.1, by show s.gen + k < _; omega⟩, by show (s.d.writeS _ _).pend.length + 1 + 2 * k ≤ _; omega⟩
  · exact ⟨⟨h1.1, by show s.lsn + 1 + 2 * k < _; omega⟩, ⟨h2.1, by show s.gen + k < _; omega⟩, by show s.d.pend.length + 1 + 2 * k ≤ _; omega⟩
theorem LSt.Fine.sealed (h : s.Fine (k + 1)) (epoch : Int) : (s.seal epoch).2.Fine k := by
  obtain ⟨h1, h2, h3, h4⟩ := h.seal epoch
  exact ⟨h1, by omega, h3, by omega⟩
theorem put_fine {s : LSt} {k : Nat} (hT : s.T.Ok) (hl : 1 ≤ s.lsn ∧ s.lsn + 1 + 2 * k < 1000000) (hg : 0 ≤ s.gen ∧ s.gen + k < 1000000) (hp : s.d.pend.length + 1 + 2 * k ≤ 100000) (hr : s.T.last < s.T.slots) (epoch : Int) (rc : Rec) : (s.put epoch rc).2.2.2.Fine k := by
  unfold LSt.put
  split
  · have h4 := write_pend s.d s.T.at_ (s.recOf epoch rc).sector
    exact ⟨s.T.count_ok hT hr, ⟨by show 1 ≤ s.lsn + 1; omega, by show s.lsn + 1 + 2 * k < _; omega⟩, hg, by show (s.d.writeS _ _).pend.length + 2 * k ≤ _; omega⟩
  · exact ⟨hT, ⟨hl.1, by show s.lsn + 2 * k < _; omega⟩, hg, by show s.d.pend.length + 2 * k ≤ _; omega⟩
theorem LSt.Fine.append (h : s.Fine (k + 1)) (epoch : Int) (rc : Rec) : (s.append epoch rc).2.2.2.Fine k := by
  unfold LSt.append
  split
  · exact h.le
  split
  · exact h.le
  split
  · split
    · rename_i hz
      obtain ⟨h1, h2, h3, h4⟩ := h.seal epoch
      have hsl := h1.slots
      exact put_fine h1 h2 h3 h4 (by rw [seal_last hz]; omega) epoch rc
    · exact h.sealed epoch
  · rename_i hn
    have h1 := h.lsn
    have h2 := h.gen
    have h3 := h.pend
    have h5 := h.t.last
    exact put_fine h.t ⟨h1.1, by omega⟩ ⟨h2.1, by omega⟩ (by omega) (by omega) epoch rc
end
/-- One call: what it is, a record, a segment, a version. -/
structure Opn where
  kind : Int
  r : Rec
  n : Int
  ver : Int
abbrev Opn.cells (o : Opn) : Array Value := #[.int .i64 o.kind, .int .u64 o.r.lsn, .int .u32 o.r.epoch, .int .i64 o.r.kind, .int .u64 o.r.ver, .int .u64 o.r.dl, .string o.r.id, .string o.r.val, .int .i64 o.n, .int .u64 o.ver]
structure Opn.Wf (o : Opn) : Prop where
  r : o.r.Fits
  n : -9223372036854775808 ≤ o.n ∧ o.n ≤ 9223372036854775807
  ver : 0 ≤ o.ver ∧ o.ver < 18446744073709551616
def LSt.act (s : LSt) (epoch : Int) (o : Opn) : Int × Int × Int × LSt :=
  if bits BinOp.and IntKind.i64 o.kind 7 = 0 then ((s.seal epoch).1, 0, 0, (s.seal epoch).2)
  else if bits BinOp.and IntKind.i64 o.kind 7 = 1 then ((s.drop epoch o.n o.ver).1, 0, 0, (s.drop epoch o.n o.ver).2)
  else if bits BinOp.and IntKind.i64 o.kind 7 = 2 then ((s.ck epoch o.ver).1, 0, 0, (s.ck epoch o.ver).2)
  else s.append epoch o.r.cut
theorem LSt.Fine.act {s : LSt} {k : Nat} (h : s.Fine (k + 1)) (epoch : Int) (o : Opn) : (s.act epoch o).2.2.2.Fine k := by
  unfold LSt.act
  split
  · exact h.sealed epoch
  split
  · exact h.drop epoch _ _
  split
  · exact h.ck epoch _
  · exact h.append epoch _
/-- A drop, whatever comes of it. -/
theorem LDrop_any {s : LSt} (hs : s.Ok) (hp : s.d.pend.length ≤ 100000) (g gd : Nat) (epoch : Int) (he : 0 ≤ epoch ∧ epoch < 4294967296) (seg ver : Int) (hv : 0 ≤ ver ∧ ver < 18446744073709551616) (AO : Option Addr) (cO : Nat) (AL : Option Addr) (cL : Nat) (AF : Option Addr) (cF : Nat)
    {S0 : Nat → Prop} {w0 w : World} {L : List Thing} (hS : Now S0 w0 w (s.parts g gd epoch AO cO AL cL AF cF ++ L)) :
    Calls Tryz.prog 21 #[.pointer (some ⟨g, 0, none⟩), .int .i64 seg, .int .u64 ver] w fun e w' => e = .returned (.int .i64 (s.drop epoch seg ver).1) ∧ GotLog S0 w0 w' (s.drop epoch seg ver).2 g gd epoch L := by
  have hl := hs.lsn
  have hg := hs.gen
  unfold LSt.drop
  by_cases hb : idx s.T.order seg < 0 ∨ idx s.T.order seg = (s.T.order.length - 1 : Nat)
  · rw [if_pos hb]
    exact (LDrop_bad g gd s.T hs.t AO cO AL cL AF cF s.lsn epoch s.gen seg ver s.d hb hS).mono fun e w' h => ⟨h.1, AO, cO, AL, cL, AF, cF, h.2⟩
  · rw [if_neg hb]
    obtain ⟨h1, h2⟩ := drop_place hs.t hb
    exact LDrop_ok g gd s.T hs.t AO cO AL cL AF cF s.lsn epoch s.gen seg ver s.d (by omega) ⟨hl.1, by omega⟩ he ⟨hg.1, by omega⟩ hv _ h2 h1 hS
theorem Ck_any {s : LSt} (hs : s.Ok) (g gd : Nat) (epoch : Int) (he : 0 ≤ epoch ∧ epoch < 4294967296) (ver : Int) (hv : 0 ≤ ver ∧ ver < 18446744073709551616) (AO : Option Addr) (cO : Nat) (AL : Option Addr) (cL : Nat) (AF : Option Addr) (cF : Nat)
    {S0 : Nat → Prop} {w0 w : World} {L : List Thing} (hS : Now S0 w0 w (s.parts g gd epoch AO cO AL cL AF cF ++ L)) :
    Calls Tryz.prog 44 #[.pointer (some ⟨g, 0, none⟩), .int .u64 ver] w fun e w' => e = .returned (.int .i64 (s.ck epoch ver).1) ∧ GotLog S0 w0 w' (s.ck epoch ver).2 g gd epoch L := by
  have hl := hs.lsn
  have hg := hs.gen
  have hp := hs.pend
  exact (Checkpoint_any g gd s.T hs.t AO cO AL cL AF cF s.lsn epoch s.gen ver s.d (by omega) ⟨hl.1, by omega⟩ he ⟨hg.1, by omega⟩ hv hS).mono fun e w' h => ⟨h.1, AO, cO, AL, cL, AF, cF, h.2⟩
set_option maxHeartbeats 8000000 in
theorem Act_any {s : LSt} {k : Nat} (hs : s.Fine (k + 1)) (g gd : Nat) (epoch : Int) (he : 0 ≤ epoch ∧ epoch < 4294967296) (o : Opn) (ho : o.Wf) (AO : Option Addr) (cO : Nat) (AL : Option Addr) (cL : Nat) (AF : Option Addr) (cF : Nat)
    {S0 : Nat → Prop} {w0 w : World} {L : List Thing} (hS : Now S0 w0 w (s.parts g gd epoch AO cO AL cL AF cF ++ L)) :
    Calls Tryz.prog 37 #[.pointer (some ⟨g, 0, none⟩), .agg o.cells] w fun e w' => e = .returned (.tuple #[.agg #[.int .i64 (s.act epoch o).2.1, .int .i64 (s.act epoch o).2.2.1], .int .i64 (s.act epoch o).1]) ∧ GotLog S0 w0 w' (s.act epoch o).2.2.2 g gd epoch L := by
  obtain ⟨ae, ag, asl, s', hans⟩ : ∃ ae ag asl s', s.act epoch o = (ae, ag, asl, s') := ⟨_, _, _, _, rfl⟩
  have hv := ho.ver
  have hrf := ho.r
  have hcf := Rec.cut_fits hrf
  have hok := hs.ok
  have hsok := hs.sealOk epoch
  have hlr := hok.lsn
  have hF : (s.recOf epoch o.r.cut).Fits := ⟨by show 0 ≤ s.lsn ∧ s.lsn < _; omega, by show 0 ≤ epoch ∧ epoch < _; omega, hcf.kind, hcf.ver, hcf.dl, hcf.id, hcf.val⟩
  obtain ⟨m, hm⟩ : ∃ m, bits BinOp.and IntKind.i64 o.kind 7 = m := ⟨_, rfl⟩
  have hsx := fun L v (h : Now S0 w0 v (s.parts g gd epoch AO cO AL cL AF cF ++ L)) => Seal_any s hok g gd epoch he AO cO AL cL AF cF h
  have hdx := fun L v (h : Now S0 w0 v (s.parts g gd epoch AO cO AL cL AF cF ++ L)) => LDrop_any hok hok.pend g gd epoch he o.n o.ver hv AO cO AL cL AF cF h
  have hkx := fun L v (h : Now S0 w0 v (s.parts g gd epoch AO cO AL cL AF cF ++ L)) => Ck_any hok g gd epoch he o.ver hv AO cO AL cL AF cF h
  have hax := fun L v (h : Now S0 w0 v (s.parts g gd epoch AO cO AL cL AF cF ++ L)) => Append_any s hok hsok g gd he o.r.cut hF AO cO AL cL AF cF h
  have hcx := fun v => Cut_any o.r v
  have hS1 := Now.perm (Now.pushCells (Now.pushCells hS 74 o.cells) 36 #[.int .i64 0, .int .i64 0]) (List.perm_append_comm_assoc [_, _] (s.parts g gd epoch AO cO AL cL AF cF) L)
  simp only [World.size_alloc] at hS1
  rw [hans]
  unfold LSt.act at hans
  rw [hm] at hans
  unfold Rec.value at hcx hax
  clear hS hok hsok hlr hF hcf hrf hv hs
  by_cases h0 : m = 0
  · rw [if_pos h0] at hans
    cases hans
    subst h0
    clear hdx hkx hax hcx
    go_enter Tryz.func37, Tryz.ntmps37
    go_wp2_with (go_at_call 19; have h' := hsx _ _ hS1; clear hS1; refine h'.mono ?_; clear h'; rintro e w1 ⟨rfl, D1, d1, D2, d2, D3, d3, hS2⟩; have hcb := Now.blk (pre := [_, _, _, _, _]) hS2; have l0 : w1.cell? ⟨w.heap.size + 1, 0, none⟩ = some (Value.int .i64 0) := hcb.cell 0; have l1 : w1.cell? ⟨w.heap.size + 1, 1, none⟩ = some (Value.int .i64 0) := hcb.cell 1; have fl := fun k => hcb.frozen k; clear hcb)
    have hS3 := Now.set_ (pre := [_, _, _, _, _]) (Now.set_ (pre := [_, _, _, _, _]) hS2 0 (.int .i64 0)) 1 (.int .i64 0)
    refine bodyPost_ret (v := .tuple #[.agg #[.int .i64 0, .int .i64 0], .int .i64 (s.seal epoch).1]) ?_ rfl ⟨rfl, D1, d1, D2, d2, D3, d3, Now.drop (pre := [_, _, _, _, _]) (Now.drop (pre := [_, _, _, _, _]) hS3)⟩
    exact results_row_tmp rfl _ _ _ _ _ _ _ (by simp) (by simp) (Now.blk (pre := [_, _, _, _, _]) hS3) Tryz.underlying36 rfl (by kernel_rfl)
  have n0 : (m == 0) = false := beq_eq_false_iff_ne.2 h0
  rw [if_neg h0] at hans
  by_cases h1 : m = 1
  · rw [if_pos h1] at hans
    cases hans
    subst h1
    clear hsx hkx hax hcx
    go_enter Tryz.func37, Tryz.ntmps37
    go_wp2_with (go_at_call 21; have h' := hdx _ _ hS1; clear hS1; refine h'.mono ?_; clear h'; rintro e w1 ⟨rfl, D1, d1, D2, d2, D3, d3, hS2⟩; have hcb := Now.blk (pre := [_, _, _, _, _]) hS2; have l0 : w1.cell? ⟨w.heap.size + 1, 0, none⟩ = some (Value.int .i64 0) := hcb.cell 0; have l1 : w1.cell? ⟨w.heap.size + 1, 1, none⟩ = some (Value.int .i64 0) := hcb.cell 1; have fl := fun k => hcb.frozen k; clear hcb)
    have hS3 := Now.set_ (pre := [_, _, _, _, _]) (Now.set_ (pre := [_, _, _, _, _]) hS2 0 (.int .i64 0)) 1 (.int .i64 0)
    refine bodyPost_ret (v := .tuple #[.agg #[.int .i64 0, .int .i64 0], .int .i64 (s.drop epoch o.n o.ver).1]) ?_ rfl ⟨rfl, D1, d1, D2, d2, D3, d3, Now.drop (pre := [_, _, _, _, _]) (Now.drop (pre := [_, _, _, _, _]) hS3)⟩
    exact results_row_tmp rfl _ _ _ _ _ _ _ (by simp) (by simp) (Now.blk (pre := [_, _, _, _, _]) hS3) Tryz.underlying36 rfl (by kernel_rfl)
  have n1 : (m == 1) = false := beq_eq_false_iff_ne.2 h1
  rw [if_neg h1] at hans
  by_cases h2 : m = 2
  · rw [if_pos h2] at hans
    cases hans
    subst h2
    clear hsx hdx hax hcx
    go_enter Tryz.func37, Tryz.ntmps37
    go_wp2_with (go_at_call 44; have h' := hkx _ _ hS1; clear hS1; refine h'.mono ?_; clear h'; rintro e w1 ⟨rfl, D1, d1, D2, d2, D3, d3, hS2⟩; have hcb := Now.blk (pre := [_, _, _, _, _]) hS2; have l0 : w1.cell? ⟨w.heap.size + 1, 0, none⟩ = some (Value.int .i64 0) := hcb.cell 0; have l1 : w1.cell? ⟨w.heap.size + 1, 1, none⟩ = some (Value.int .i64 0) := hcb.cell 1; have fl := fun k => hcb.frozen k; clear hcb)
    have hS3 := Now.set_ (pre := [_, _, _, _, _]) (Now.set_ (pre := [_, _, _, _, _]) hS2 0 (.int .i64 0)) 1 (.int .i64 0)
    refine bodyPost_ret (v := .tuple #[.agg #[.int .i64 0, .int .i64 0], .int .i64 (s.ck epoch o.ver).1]) ?_ rfl ⟨rfl, D1, d1, D2, d2, D3, d3, Now.drop (pre := [_, _, _, _, _]) (Now.drop (pre := [_, _, _, _, _]) hS3)⟩
    exact results_row_tmp rfl _ _ _ _ _ _ _ (by simp) (by simp) (Now.blk (pre := [_, _, _, _, _]) hS3) Tryz.underlying36 rfl (by kernel_rfl)
  have n2 : (m == 2) = false := beq_eq_false_iff_ne.2 h2
  rw [if_neg h2] at hans
  simp only [hans] at hax
  clear hsx hdx hkx hans
  go_enter Tryz.func37, Tryz.ntmps37
  go_wp2_with (first
    | (go_at_call 32; (with_reducible refine (hcx _).mono ?_); rintro e w0 ⟨rfl, hB⟩; replace hS1 := Now.below hS1 hB; clear hB hcx)
    | (go_at_call 16; have h' := hax _ _ hS1; clear hS1; refine h'.mono ?_; clear h'; rintro e w1 ⟨rfl, D1, d1, D2, d2, D3, d3, hS2⟩; have hcb := Now.blk (pre := [_, _, _, _, _]) hS2; have l0 : w1.cell? ⟨w.heap.size + 1, 0, none⟩ = some (Value.int .i64 0) := hcb.cell 0; have l1 : w1.cell? ⟨w.heap.size + 1, 1, none⟩ = some (Value.int .i64 0) := hcb.cell 1; have fl := fun k => hcb.frozen k; clear hcb))
  have hS3 := Now.set_ (pre := [_, _, _, _, _]) (Now.set_ (pre := [_, _, _, _, _]) hS2 0 (.int .i64 ag)) 1 (.int .i64 asl)
  refine bodyPost_ret (v := .tuple #[.agg #[.int .i64 ag, .int .i64 asl], .int .i64 ae]) ?_ rfl ⟨rfl, D1, d1, D2, d2, D3, d3, Now.drop (pre := [_, _, _, _, _]) (Now.drop (pre := [_, _, _, _, _]) hS3)⟩
  exact results_row_tmp rfl _ _ _ _ _ _ _ (by simp) (by simp) (Now.blk (pre := [_, _, _, _, _]) hS3) Tryz.underlying36 rfl (by kernel_rfl)
end Go.Proofs.YthlbciinpidedaaGreat
