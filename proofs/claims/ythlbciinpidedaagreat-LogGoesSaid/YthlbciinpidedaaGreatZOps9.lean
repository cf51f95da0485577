/- Calls of a log among a law's arguments: how a list of them is opened, and read. -/
import Derived.Test.YthlbciinpidedaaGreatZAct9
import Derived.Test.YthlbciinpidedaaGreatZRunPure
import Derived.Test.YthlbciinpidedaaGreatZK12
namespace Go.Proofs.YthlbciinpidedaaGreat
set_option linter.unusedSimpArgs false
set_option linter.unusedVariables false
set_option maxRecDepth 100000
open Go.RowKit
section
open Go.ChangeShapes Go.WideShapes Go.ChangeAt Go.Deep
variable {H : Type} {enc : TypeId × Value → H} {W : World} {b0 : Nat}
abbrev op9Form : List (List Value → Prop) := [rdInt .i64, Parts recForm, rdInt .i64, rdInt .u64]
set_option maxRecDepth 100000 in
theorem tr_op9 : Rd enc Tryz.prog W 74 (Parts op9Form) :=
  tr_struct Tryz.underlying74 (by kernel_rfl) ⟨rfl, tr_int Tryz.underlying3, by kernel_rfl, tr_rec, by kernel_rfl, tr_int Tryz.underlying3, by kernel_rfl, tr_int Tryz.underlying39, trivial⟩
set_option maxRecDepth 100000 in
theorem opened_sl_Op {v : Value} {d : DataW H} {ps : List MemPlace} (hv : Value.okWide Tryz.prog W .any b0 63 v) (h : DataW.Trod enc Tryz.prog W 0 (fun _ => true) true 63 v d ps) : ∃ A n c xss, v = .slice A n c ∧ Elems W 10 (Parts op9Form) A n c xss :=
  opened_sl Tryz.underlying63 (tr_slice (by omega) Tryz.underlying63 (by kernel_rfl) tr_op9) hv h
end
theorem op9_form {cs : List Value} (h : Parts op9Form cs) : ∃ o : Opn, cs = o.cells.toList ∧ o.Wf := by
  obtain ⟨_, _, rfl, ⟨k, rfl, _⟩, g1⟩ := h.cons
  obtain ⟨a, _, rfl, hr, g2⟩ := g1.cons
  obtain ⟨_, _, rfl, ⟨n, rfl, hn⟩, g3⟩ := g2.cons
  obtain ⟨_, _, rfl, ⟨ver, rfl, hv⟩, g4⟩ := g3.cons
  have g4 : _ = [] := g4
  subst g4
  obtain ⟨r, he, hf⟩ := rec_form hr
  have ha : a = [.int .u64 r.lsn, .int .u32 r.epoch, .int .i64 r.kind, .int .u64 r.ver, .int .u64 r.dl, .string r.id, .string r.val] := (congrArg Array.toList (Value.agg.inj he)).symm
  subst ha
  exact ⟨⟨k, r, n, ver⟩, rfl, hf, bounds_i64 hn, lt_u64 hv⟩
/-- An element's cells, read. -/
theorem op10 {W w : World} {L : List Thing} {ad : Addr} {k : Nat} {o : Opn} (hN : Sep W w L) (hb : ad.block < W.heap.size) (hc : ∀ q, q < 10 → W.cell? (ad.add (k * 10 + q)) = o.cells.toList[q]?) :
    w.cell? (ad.add (k * 10)) = some (.int .i64 o.kind) ∧ w.cell? ⟨(ad.add (k * 10)).block, (ad.add (k * 10)).off + 1, none⟩ = some (.int .u64 o.r.lsn) ∧ w.cell? ⟨(ad.add (k * 10)).block, (ad.add (k * 10)).off + 2, none⟩ = some (.int .u32 o.r.epoch) ∧ w.cell? ⟨(ad.add (k * 10)).block, (ad.add (k * 10)).off + 3, none⟩ = some (.int .i64 o.r.kind) ∧ w.cell? ⟨(ad.add (k * 10)).block, (ad.add (k * 10)).off + 4, none⟩ = some (.int .u64 o.r.ver) ∧ w.cell? ⟨(ad.add (k * 10)).block, (ad.add (k * 10)).off + 5, none⟩ = some (.int .u64 o.r.dl) ∧ w.cell? ⟨(ad.add (k * 10)).block, (ad.add (k * 10)).off + 6, none⟩ = some (.string o.r.id) ∧ w.cell? ⟨(ad.add (k * 10)).block, (ad.add (k * 10)).off + 7, none⟩ = some (.string o.r.val) ∧ w.cell? ⟨(ad.add (k * 10)).block, (ad.add (k * 10)).off + 8, none⟩ = some (.int .i64 o.n) ∧ w.cell? ⟨(ad.add (k * 10)).block, (ad.add (k * 10)).off + 9, none⟩ = some (.int .u64 o.ver) := by
  have hw : ∀ q, q < 10 → w.cell? ((ad.add (k * 10)).add q) = o.cells.toList[q]? := fun q hq => by
    rw [add_of_add]
    exact ((Sep.base hN).cell (by rw [block_of_add]; exact hb)).trans (hc q hq)
  refine ⟨?_, cell_off (hw 1 (by omega)), cell_off (hw 2 (by omega)), cell_off (hw 3 (by omega)), cell_off (hw 4 (by omega)), cell_off (hw 5 (by omega)), cell_off (hw 6 (by omega)), cell_off (hw 7 (by omega)), cell_off (hw 8 (by omega)), cell_off (hw 9 (by omega))⟩
  have := hw 0 (by omega)
  rwa [show (ad.add (k * 10)).add 0 = ad.add (k * 10) from rfl] at this
/-- A log's lists lie somewhere. -/
theorem somes {S0 : Nat → Prop} {w0 w : World} {s : LSt} (hT : s.T.Ok) {g gd : Nat} {ep : Int} {A1 : Option Addr} {k1 : Nat} {A2 : Option Addr} {k2 : Nat} {A3 : Option Addr} {k3 : Nat} {L : List Thing} (hS : Now S0 w0 w (s.parts g gd ep A1 k1 A2 k2 A3 k3 ++ L)) : ∃ t1 t2 t3, A1 = some t1 ∧ A2 = some t2 ∧ A3 = some t3 := by
  have hpos := hT.pos
  have hll := hT.len
  have hfs := hT.fst
  obtain ⟨t1, e1, _⟩ := (Reads.of_own (Now.row (pre := [_]) hS)).2 (by omega)
  obtain ⟨t2, e2, _⟩ := (Reads.of_own (Now.row (pre := [_, _]) hS)).2 (show 0 < s.T.lens.length by omega)
  obtain ⟨t3, e3, _⟩ := (Reads.of_own (Now.row (pre := [_, _, _]) hS)).2 (show 0 < s.T.firsts.length by omega)
  exact ⟨t1, t2, t3, e1, e2, e3⟩
theorem Run.fine {c : Cnf} {q r m : Nat} {s : LSt} (h : Run c q r m s) (k : Nat) (hk : 2 * (m + k) ≤ 10000) : s.Fine k :=
  ⟨h.t, by rw [h.lsn]; omega, by rw [h.gen]; omega, by rw [h.pend]; omega⟩
end Go.Proofs.YthlbciinpidedaaGreat
