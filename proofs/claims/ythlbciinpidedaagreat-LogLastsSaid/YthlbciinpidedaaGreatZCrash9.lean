/- A crash among a law's arguments: how it is opened, and done. -/
import Derived.Test.YthlbciinpidedaaGreatZK23
import Derived.Test.YthlbciinpidedaaGreatZShapes
import Derived.Test.YthlbciinpidedaaGreatZK13
namespace Go.Proofs.YthlbciinpidedaaGreat
set_option linter.unusedSimpArgs false
set_option linter.unusedVariables false
set_option maxRecDepth 100000
open Go.RowKit
/-- A limit, what a crash keeps, which write it tears, and where. -/
structure Crs where
  limit : Int
  A : Option Addr
  n : Nat
  c : Nat
  torn : Int
  at_ : Int
abbrev Crs.cells (x : Crs) : Array Value := #[.int .i64 x.limit, .slice x.A x.n x.c, .int .i64 x.torn, .int .i64 x.at_]
/-- A slice of bools that reads as a list. -/
def Keeps (W : World) (A : Option Addr) (n : Nat) (bs : List Bool) : Prop := bs.length = n ∧ ∀ k, k < n → ∃ ad, A = some ad ∧ ad.block < W.heap.size ∧ W.cell? (ad.add k) = some (.bool (bs[k]?.getD false))
structure Crs.Wf (W : World) (x : Crs) : Prop where
  limit : -9223372036854775808 ≤ x.limit ∧ x.limit ≤ 9223372036854775807
  keep : ∃ bs, Keeps W x.A x.n bs
section
open Go.ChangeShapes Go.WideShapes Go.ChangeAt Go.Deep
variable {H : Type} {enc : TypeId × Value → H} {W : World} {b0 : Nat}
set_option maxRecDepth 100000 in
theorem opened_Crash {v : Value} {d : DataW H} {ps : List MemPlace} (hv : Value.okWide Tryz.prog W .any b0 98 v) (h : DataW.Trod enc Tryz.prog W 0 (fun _ => true) true 98 v d ps) : ∃ x : Crs, v = .agg x.cells ∧ x.Wf W := by
  obtain ⟨cs, rfl, hP⟩ := opened_agg (P := Tryz.prog) (R := Parts [rdInt .i64, rdSlice W 1 rdBool, rdInt .i64, rdInt .i64]) Tryz.underlying98 (tr_struct Tryz.underlying98 (by kernel_rfl)
    ⟨rfl, tr_int Tryz.underlying3, by kernel_rfl, tr_slice (by omega) Tryz.underlying96 (by kernel_rfl) (tr_bool Tryz.underlying4), by kernel_rfl, tr_int Tryz.underlying3, by kernel_rfl, tr_int Tryz.underlying3, trivial⟩) hv h
  obtain ⟨_, _, rfl, ⟨l, rfl, hl⟩, g1⟩ := hP.cons
  obtain ⟨_, _, rfl, ⟨A, n, c, xss, rfl, hE⟩, g2⟩ := g1.cons
  obtain ⟨_, _, rfl, ⟨t, rfl, _⟩, g3⟩ := g2.cons
  obtain ⟨_, _, rfl, ⟨a, rfl, _⟩, g4⟩ := g3.cons
  have g4 : _ = [] := g4
  subst g4
  obtain ⟨bs, h1, h2⟩ := hE.bools
  exact ⟨⟨l, A, n, c, t, a⟩, rfl, bounds_i64 hl, bs, h1, h2⟩
end
/-- A crash, among a law's things. -/
theorem Crash_in {W w : World} {pre post : List Thing} {g : Nat} {d : Dsk} {A : Option Addr} {n : Nat} (c : Nat) {bs : List Bool} (hN : Now (fun _ => False) W w (pre ++ dskT g d :: post)) (hk : Keeps W A n bs) (torn at_ : Int) (hG : d.Good) (hp : d.pend.length ≤ 1000000000) :
    Calls Tryz.prog 45 #[.pointer (some ⟨g, 0, none⟩), .slice A n c, .int .i64 torn, .int .i64 at_] w fun e w' => e = .returned (.tuple #[]) ∧ Now (fun _ => False) W w' (pre ++ dskT g (d.crash bs torn at_) :: post) := by
  have hB := Sep.base hN
  obtain ⟨S, ⟨b, v, hD, hSf⟩, hS, h2⟩ := hN.at_
  refine (Crash_any g b v d A n c bs torn at_ w hD hG hp ⟨hk.1, fun k hkn => ?_⟩).mono fun e w' ⟨he, h3, h4⟩ => ⟨he, h2 w' [dskT g (d.crash bs torn at_)] ⟨foot g b (.slice none 0 0), ⟨foot g b (.slice none 0 0), fun _ => False, ⟨b, _, h3, fun _ => Iff.rfl⟩, fun _ h => h, fun _ _ h => h, fun _ => ⟨.inl, fun h => h.elim id False.elim⟩⟩, h4.mono (fun k _ hk => (hSf k).2 hk), fun k hk => ?_⟩⟩
  · obtain ⟨ad, e, hb, hc⟩ := hk.2 k hkn
    refine ⟨ad, e, fun hf => ?_, (hB.cell (p := ad.add k) (by rw [block_of_add]; exact hb)).trans hc⟩
    rw [block_of_add] at hf
    rcases hS _ ((hSf _).2 hf) with h | h
    · exact h
    · omega
  · rcases hk with hk | hk | hk
    · exact .inl ((hSf k).2 (.inl hk))
    · exact .inl ((hSf k).2 (.inr (.inl hk)))
    · simp [Value.ownBlock] at hk
end Go.Proofs.YthlbciinpidedaaGreat
