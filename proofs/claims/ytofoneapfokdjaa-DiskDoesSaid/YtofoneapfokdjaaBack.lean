/- slices.Backward over pending writes: the iterator's contract. -/
import Derived.RangeFuncNested
import Derived.RangeFuncBound
import Derived.RangeFuncCalls
import Derived.RangeFuncLeaves
import Derived.RangeFuncBox
import Derived.Shelf.Abstract
import Derived.Shelf.RegionOpen
import Derived.WalkKit
import Derived.OwnWalkIn
import Derived.TacticsInMore
import Derived.LoopNIn
import Derived.LoopIn
import Derived.Test.YtofoneapfokdjaaDisk
namespace Go.Proofs.Ytofoneapfokdjaa
set_option linter.unusedSimpArgs false
set_option linter.unusedVariables false
open Go.RowKit Go.Shelf
attribute [local go_sem] Oper.semAt_some

/-- What has come when k rounds are over: the last k writes, the last one first, each with its place. -/
def backTo (zs : List (Int × ByteArray)) (k : Nat) : List (Nat × Int × ByteArray) := (List.range k).map fun j => (zs.length - 1 - j, zs[zs.length - 1 - j]?.getD (0, ByteArray.empty))
theorem backTo_succ (zs : List (Int × ByteArray)) (k : Nat) : backTo zs (k + 1) = backTo zs k ++ [(zs.length - 1 - k, zs[zs.length - 1 - k]?.getD (0, ByteArray.empty))] := by simp [backTo, List.range_succ]
theorem backTo_length (zs : List (Int × ByteArray)) (k : Nat) : (backTo zs k).length = k := by simp [backTo]

abbrev backEnc (x : Nat × Int × ByteArray) : Array Value := #[.int .i64 (x.1 : Int), .agg #[.int .i64 x.2.1, .string x.2.2]]

set_option maxRecDepth 100000 in
set_option maxHeartbeats 2000000 in
theorem back1_in (F : Fence) (n : Nat) (hf : F.fn 38) (hro : F.round = none) (hn : 1 ≤ n) (l Bs n₀ : Nat) (A : Option Addr) (cap : Nat) (zs : List (Int × ByteArray)) (hlen : zs.length ≤ 1000000000) (J Jx : List (Nat × Int × ByteArray) → World → Prop)
    (hY : ∀ pre x W, J pre W → pre.length < zs.length → YieldAt F (n - 1) Try.prog l (backEnc x) W fun e W' =>
      (e = .returned (.bool true) ∧ J (pre ++ [x]) W' ∧ Below n₀ W W') ∨ (e = .returned (.bool false) ∧ Jx (pre ++ [x]) W'))
    (W : World) (hBs : W.cell? ⟨Bs, 0, none⟩ = some (.slice A zs.length cap)) (hBn : Bs < n₀)
    (hc : ∀ j, j < zs.length → ∃ ad, A = some ad ∧ (ad.add (j * 2)).block < n₀ ∧ W.cell? (ad.add (j * 2)) = some (.int .i64 (zs[j]?.getD (0, ByteArray.empty)).1) ∧ W.cell? ⟨(ad.add (j * 2)).block, (ad.add (j * 2)).off + 1, none⟩ = some (.string (zs[j]?.getD (0, ByteArray.empty)).2)) (h0 : J [] W) :
    CallsIn F n Try.prog 38 #[.func (.yield l) #[] #[], .pointer (some ⟨Bs, 0, none⟩)] W fun e W' => (∃ v, e = .returned v) ∧
      ((∃ ys, ys = backTo zs zs.length ∧ J ys W') ∨ (∃ pre, (∃ k, k ≤ zs.length ∧ pre = backTo zs k) ∧ Jx pre W')) := by
  refine callsIn_of_wp Try.func38 rfl hf ?_ hro
  simp only [Try.ntmps38, List.size_toArray, List.length_cons, List.length_nil, Nat.reduceAdd, Nat.reduceSub, Array.replicate_succ, Array.replicate_zero, List.push_toArray, List.append_toArray, List.nil_append, List.cons_append]
  gi_wp2
  gi_loopw [3] (fun i wr => ∃ k : Nat, k ≤ zs.length ∧ i = .int .i64 ((zs.length : Int) - 1 - k) ∧ J (backTo zs k) wr ∧ Below n₀ W wr)
    (fun i _ => (intOf i + 1).toNat)
  case atStart => exact ⟨0, Nat.zero_le _, by simp, h0, Below.refl _ _⟩
  case round =>
    obtain ⟨k, hk, rfl, hJs, hnx⟩ := hrel
    have hBs' : wr.cell? ⟨Bs, 0, none⟩ = some (.slice A zs.length cap) := (hnx.cell (p := ⟨Bs, 0, none⟩) hBn).trans hBs
    by_cases hlt : k < zs.length
    · obtain ⟨ad, rfl, hb, c0, c1⟩ := hc (zs.length - 1 - k) (by omega)
      have d0 := (hnx.cell (p := ad.add ((zs.length - 1 - k) * 2)) hb).trans c0
      have d1 := (hnx.cell (p := ⟨(ad.add ((zs.length - 1 - k) * 2)).block, (ad.add ((zs.length - 1 - k) * 2)).off + 1, none⟩) hb).trans c1
      obtain ⟨fn, tmps, assign, body, hy, hR⟩ := hY _ (zs.length - 1 - k, zs[zs.length - 1 - k]?.getD (0, ByteArray.empty)) wr hJs (by rw [backTo_length]; exact hlt)
      obtain ⟨q, hq⟩ : ∃ q : Nat, zs.length - 1 - k = q := ⟨_, rfl⟩
      have hqi : (zs.length : Int) - 1 - k = (q : Int) := by omega
      have hqs := backTo_succ zs k
      rw [hq] at d0 d1 hy hR hqs
      rw [hqi]
      generalize zs[q]?.getD (0, ByteArray.empty) = p at *
      have hq1 : (q : Int) < (zs.length : Int) := by omega
      have HQ := Lib.hid hqi
      have HS := Lib.hid hqs
      have HJ := Lib.hid hc
      clear hq hqi hqs hc c0 c1
      gi_wp2
      refine hR.mono ?_
      rintro e W3 (⟨rfl, hJ3, hk3⟩ | ⟨rfl, hJx3⟩)
      · gi_wp2
        go_roundw
        case rel => exact ⟨k + 1, by omega, by have := HQ.out; congr 1 <;> omega, by rw [HS.out]; exact hJ3, hnx.trans hk3⟩
        case measure => have := HQ.out; simp [intOf]
      · gi_wp2
        refine bodyPost_ret (results_none rfl _ _ _) rfl ?_
        exact ⟨⟨_, rfl⟩, .inr ⟨_, ⟨k + 1, by omega, HS.out.symm⟩, hJx3⟩⟩
    · obtain rfl : k = zs.length := by omega
      have hneg : (zs.length : Int) - 1 - (zs.length : Nat) = -1 := by omega
      rw [hneg]
      clear hneg
      gi_wp2
      go_end0
      exact ⟨⟨_, rfl⟩, .inl ⟨_, rfl, hJs⟩⟩

set_option maxHeartbeats 1000000 in
theorem back_in (F : Fence) (n : Nat) (hf : F.fn 29) (hro : F.round = none) (a : Option Addr) (len cap : Nat) (w : World) :
    CallsIn F n Try.prog 29 #[.slice a len cap] w fun e w' => e = .returned (.func (.func 38) #[] #[.pointer (some ⟨w.heap.size, 0, none⟩)]) ∧ w.alloc (.cells #[.slice a len cap] 61) = w' := by
  refine callsIn_of_wp Try.func29 rfl hf ?_ hro
  simp only [Try.ntmps29, List.size_toArray, List.length_cons, List.length_nil, Nat.reduceAdd, Nat.reduceSub, Array.replicate_succ, Array.replicate_zero, List.push_toArray, List.append_toArray, List.nil_append, List.cons_append]
  gi_wp2
  go_ret
  exact ⟨rfl, rfl⟩

/-- slices.Backward's value stops where its loop's body says so: all writes, the last one first; or the last k of them. -/
theorem back_stops (F : Fence) (n : Nat) (hf : F.fn 38) (hro : F.round = none) (hn : 1 ≤ n) (Bs n₀ : Nat) (A : Option Addr) (cap : Nat) (zs : List (Int × ByteArray)) (hlen : zs.length ≤ 1000000000) (w : World) (hBs : Bs < n₀) (hn₀ : n₀ ≤ w.heap.size)
    (hb : w.cell? ⟨Bs, 0, none⟩ = some (.slice A zs.length cap))
    (hc : ∀ j, j < zs.length → ∃ ad, A = some ad ∧ (ad.add (j * 2)).block < n₀ ∧ w.cell? (ad.add (j * 2)) = some (.int .i64 (zs[j]?.getD (0, ByteArray.empty)).1) ∧ w.cell? ⟨(ad.add (j * 2)).block, (ad.add (j * 2)).off + 1, none⟩ = some (.string (zs[j]?.getD (0, ByteArray.empty)).2)) :
    SeqStopsK F n Try.prog 38 #[.pointer (some ⟨Bs, 0, none⟩)] backEnc (Below n₀) (fun ys => ys = backTo zs zs.length) (fun pre => ∃ k, k ≤ zs.length ∧ pre = backTo zs k) zs.length w := fun l J Jx W hW _ _ hY h0 => by
  have hW' := hW.mono hn₀
  exact back1_in F n hf hro hn l Bs n₀ A cap zs hlen J Jx hY W ((hW'.cell (p := ⟨Bs, 0, none⟩) hBs).trans hb) hBs (fun j hj => by
    obtain ⟨ad, e, h1, h2, h3⟩ := hc j hj
    exact ⟨ad, e, h1, (hW'.cell h1).trans h2, (hW'.cell (p := ⟨(ad.add (j * 2)).block, (ad.add (j * 2)).off + 1, none⟩) h1).trans h3⟩) h0
end Go.Proofs.Ytofoneapfokdjaa
