/- The walk of the law CreditFair. -/
import Derived.Test.YtenflnlcoljieaaCreditPure
import Derived.Test.YtenflnlcoljieaaWalkCreditTells
import Derived.Maps.AppendAt
namespace Go.Proofs.Ytenflnlcoljieaa
open Go.RowKit
attribute [local go_sem high] run_mx run_mn

theorem infoInt : (Try.prog.info? 3).map (fun i => (i.zero, i.size, i.bytes)) = some (some (.int .i64 0), 1, 8) := by kernel_rfl

/-- What the loops know of the picks: their number, their sum, each 0 or 1. -/
def Fair (L : List Int) (n : Nat) (s : Int) : Prop := L.length = n ∧ L.sum = s ∧ ∀ y ∈ L, y = 0 ∨ y = 1
theorem Fair.nil : Fair [] 0 0 := ⟨rfl, rfl, by simp⟩
theorem Fair.snoc {L : List Int} {n : Nat} {s : Int} (h : Fair L n s) (y : Int) (hy : y = 0 ∨ y = 1) : Fair (L ++ [y]) (n + 1) (s + y) := by
  obtain ⟨h1, h2, h3⟩ := h
  refine ⟨by simp [h1], by rw [List.sum_append]; simp [h2], fun z hz => ?_⟩
  rcases List.mem_append.1 hz with hz | hz
  · exact h3 z hz
  · simp at hz; subst hz; exact hy
theorem fair_all {L : List Int} {n m : Nat} (h : Fair L m n) (hn : n ≤ 64) : (runS [] L n (max 0 m)).1 = 0 ∧ (runS [] L n (max 0 m)).2 = n := by
  obtain ⟨h1, h2, h3⟩ := h
  have k1 := runS_fair L n (by omega) (by omega) h3 L.length (Nat.le_refl _)
  have k2 := runS_keeps [] L n L.length
  have k3 := sumW_more [] L.length (by simp)
  simp only [List.length_nil, sumW] at k3
  rw [List.take_length, h2] at k1
  rw [k3, within_def] at k2
  rw [show max 0 m = L.length by omega]
  omega

def inner (k j : Int) : Int := if k < j then 1 else 0

set_option maxRecDepth 100000 in
theorem walkCreditFair (W : World) (d0 : Int) (wd : (Lit.int .u8 d0).wf = true) (v0 : Int) (wv : (Lit.int .u8 v0).wf = true) (A : Option Addr) (n c : Nat) (xs : List Int) (w1 : IsInts .u8 1 W A n c xs) :
    Calls Try.prog 5 #[.int .u8 d0, .int .u8 v0, .slice A n c] W fun e w' => e = .returned (.bool true) ∧ Below W.heap.size W w' := by
  have wd : 0 ≤ d0 ∧ d0 ≤ 255 := by simpa [Lit.wf, IntKind.min, IntKind.max, IntKind.signed, IntKind.bits] using wd
  have wv : 0 ≤ v0 ∧ v0 ≤ 255 := by simpa [Lit.wf, IntKind.min, IntKind.max, IntKind.signed, IntKind.bits] using wv
  obtain ⟨i0, hi, hz0, hz1, hz2⟩ := info_parts infoInt
  have hr := w1.reads
  have hwf := w1.wf
  have hcap := w1.cap
  have hle := w1.le
  unfold maxLen at hcap
  have hxl := w1.len
  clear w1
  go_enter Try.func5, Try.ntmps5
  go_wp2_with fail
  obtain ⟨N, hN⟩ : ∃ N : Nat, d0 % 65 = (N : Int) := ⟨(d0 % 65).toNat, by omega⟩
  obtain ⟨V, hV⟩ : ∃ V : Nat, 1 + v0 % 4 = (V : Int) := ⟨(1 + v0 % 4).toNat, by omega⟩
  have hN64 : N ≤ 64 := by omega
  have hV4 : V ≤ 4 := by omega
  have hV1 : 1 ≤ V := by omega
  rw [hN, hV]
  clear hN hV wd wv
  have hstart : (W.alloc (.cells #[] 3)).ownsRow W.heap.size 3 1 (.slice (some ⟨W.heap.size, 0, none⟩) 0 0) 0 [] := World.ownsRow_lit W #[] 0 (Nat.le_refl _) (by simp [maxLen]) rfl
  go_loopw [9, 10] (fun v i wr => ∃ (k : Nat) (L : List Int), k ≤ N ∧ i = .int .i64 k ∧ Fair L (k * V) k ∧ wr.ownsRow W.heap.size 3 1 v (k * V) (L.map (Value.int .i64)) ∧ Below W.heap.size W wr) (fun _ i _ => N - (intOf i).toNat)
  case atStart => exact ⟨0, [], by omega, rfl, by simpa using Fair.nil, by simpa using hstart, (Below.refl _ _).alloc (Nat.le_refl _) _⟩
  case round =>
    obtain ⟨k, L, hk, rfl, hF, hown, hB⟩ := hrel
    by_cases hlt : k < N
    · have hcase : ∃ q : Int, 0 ≤ q ∧ q < V ∧ ((k < n ∧ ∃ (ad : Addr) (x : Int), A = some ad ∧ wr.cell? (ad.add k) = some (.int .u8 x) ∧ 0 ≤ x ∧ x ≤ 255 ∧ x % V = q) ∨ (¬ k < n ∧ q = 0)) := by
        by_cases hkn : k < n
        · obtain ⟨ad, u, e, hb, hx, hc⟩ := (hr.below hB).at_ hkn
          simp only [List.getElem?_map, Option.map_eq_some_iff] at hx
          obtain ⟨x, hx, rfl⟩ := hx
          have hw := hwf x (List.mem_of_getElem? hx)
          have hw : 0 ≤ x ∧ x ≤ 255 := by simpa [Lit.wf, IntKind.min, IntKind.max, IntKind.signed, IntKind.bits] using hw
          have hm1 := Int.emod_nonneg x (show (V : Int) ≠ 0 by omega)
          have hm2 := Int.emod_lt_of_pos x (show (0 : Int) < V by omega)
          exact ⟨x % V, hm1, hm2, .inl ⟨hkn, ad, x, e, hc, hw.1, hw.2, rfl⟩⟩
        · exact ⟨0, by omega, by omega, .inr ⟨hkn, rfl⟩⟩
      obtain ⟨q, hq0, hqV, hcase⟩ := hcase
      have hkV : k * V ≤ 64 * V := Nat.mul_le_mul_right _ (by omega)
      have HF := Lib.hid hF
      have hsz := hB.size
      clear hF hr hwf hstart
      have hq0' := hq0; have hqV' := hqV
      rcases hcase with ⟨hkn, ad, x, rfl, hc, hx0, hx1, hxq⟩ | ⟨hkn, hxq⟩
      · have hq0 : 0 ≤ (x % (V : Int)) := by omega
        have hqV : (x % (V : Int)) < V := by omega
        clear hxq hq0' hqV'
        go_wp2
        go_loopw [9, 12] (fun v i w2 => ∃ (j : Nat) (L : List Int), j ≤ V ∧ i = .int .i64 j ∧ Fair L (k * V + j) (k + inner (x % (V : Int)) j) ∧ w2.ownsRow W.heap.size 3 1 v (k * V + j) (L.map (Value.int .i64)) ∧ Below W.heap.size W w2) (fun _ i _ => V - (intOf i).toNat)
        case atStart => exact ⟨0, L, by omega, rfl, by simpa [inner, show ¬ (x % (V : Int)) < 0 by omega] using HF.out, by simpa using hown, hB⟩
        case round =>
          clear hown hB hsz
          clear HF
          obtain ⟨j, L, hj, rfl, hF, hown, hB⟩ := hrel
          have HF := Lib.hid hF
          have hsz := hB.size
          clear hF
          by_cases hjV : j < V
          · by_cases hjq : (j : Int) = (x % (V : Int))
            · have hs : inner (x % (V : Int)) j + 1 = inner (x % (V : Int)) (j + 1 : Nat) := by unfold inner; rw [if_neg (by omega), if_pos (by omega)]; omega
              have HF' := Lib.hid (HF.out.snoc 1 (.inr rfl))
              have HS := Lib.hid hs
              have HT : Hid ((L ++ [1]).map (Value.int .i64) = L.map (Value.int .i64) ++ [Value.int .i64 1]) := by simp [Hid]
              clear hs HF
              have hc1 : k * V + j + 1 ≤ maxLen := by unfold maxLen; omega
              have hc2 : (k * V + j + 1) * 8 ≤ 140737488355328 := by omega
              have hj1 : (j : Int) ≤ (x % (V : Int)) := by omega
              have hj2 : (x % (V : Int)) ≤ (j : Int) := by omega
              clear hjq
              go_wp2_with (at_builtin; refine wpList_app1 _ rfl _ _ 22 rfl W.heap.size 3 Try.underlying22 hi hz0 hz1 hz2 rfl hown rfl rfl rfl hc1 hc2 hsz ?_; intro v' w3 hown' hgrow _)
              go_roundw
              case rel => exact ⟨j + 1, L ++ [1], by omega, by go_num, by rw [← HS.out, ← Int.add_assoc]; exact HF'.out, by rw [HT.out]; exact hown', hB.grown hgrow hsz fun k e => (hown.lt k e).1⟩
              case measure => simp [intOf]; omega
            · have hs : inner (x % (V : Int)) j + 0 = inner (x % (V : Int)) (j + 1 : Nat) := by unfold inner; by_cases hh : (x % (V : Int)) < j; (rw [if_pos hh, if_pos (by omega)]; omega); (rw [if_neg hh, if_neg (by omega)]; omega)
              have HF' := Lib.hid (HF.out.snoc 0 (.inl rfl))
              have HS := Lib.hid hs
              have HT : Hid ((L ++ [0]).map (Value.int .i64) = L.map (Value.int .i64) ++ [Value.int .i64 0]) := by simp [Hid]
              clear hs HF
              have hc1 : k * V + j + 1 ≤ maxLen := by unfold maxLen; omega
              have hc2 : (k * V + j + 1) * 8 ≤ 140737488355328 := by omega
              go_wp2_with (at_builtin; refine wpList_app1 _ rfl _ _ 22 rfl W.heap.size 3 Try.underlying22 hi hz0 hz1 hz2 rfl hown rfl rfl rfl hc1 hc2 hsz ?_; intro v' w3 hown' hgrow _)
              go_roundw
              case rel => exact ⟨j + 1, L ++ [0], by omega, by go_num, by rw [← HS.out, ← Int.add_assoc]; exact HF'.out, by rw [HT.out]; exact hown', hB.grown hgrow hsz fun k e => (hown.lt k e).1⟩
              case measure => simp [intOf]; omega
          · obtain rfl : V = j := by omega
            have hs : inner (x % (V : Int)) V = 1 := by unfold inner; rw [if_pos (by omega)]
            have he : k * V + V = (k + 1) * V := by rw [Nat.add_mul]; omega
            have HF' : Hid (Fair L ((k + 1) * V) ((k + 1 : Nat) : Int)) := by have := HF.out; rw [hs, he] at this; exact this
            rw [he] at hown
            have HO := Lib.hid hown
            clear hown hs he HF
            go_wp2
            go_roundw
            case rel => exact ⟨k + 1, L, by omega, by go_num, HF'.out, HO.out, hB⟩
            case measure => simp [intOf]; omega
      · have hq0 : 0 ≤ 0 := by omega
        have hqV : 0 < V := by omega
        clear hxq hq0' hqV'
        go_wp2
        go_loopw [9, 12] (fun v i w2 => ∃ (j : Nat) (L : List Int), j ≤ V ∧ i = .int .i64 j ∧ Fair L (k * V + j) (k + inner (0 : Int) j) ∧ w2.ownsRow W.heap.size 3 1 v (k * V + j) (L.map (Value.int .i64)) ∧ Below W.heap.size W w2) (fun _ i _ => V - (intOf i).toNat)
        case atStart => exact ⟨0, L, by omega, rfl, by simpa [inner, show ¬ 0 < 0 by omega] using HF.out, by simpa using hown, hB⟩
        case round =>
          clear hown hB hsz
          clear HF
          obtain ⟨j, L, hj, rfl, hF, hown, hB⟩ := hrel
          have HF := Lib.hid hF
          have hsz := hB.size
          clear hF
          by_cases hjV : j < V
          · by_cases hjq : (j : Int) = 0
            · have hs : inner (0 : Int) j + 1 = inner (0 : Int) (j + 1 : Nat) := by unfold inner; rw [if_neg (by omega), if_pos (by omega)]; omega
              have HF' := Lib.hid (HF.out.snoc 1 (.inr rfl))
              have HS := Lib.hid hs
              have HT : Hid ((L ++ [1]).map (Value.int .i64) = L.map (Value.int .i64) ++ [Value.int .i64 1]) := by simp [Hid]
              clear hs HF
              have hc1 : k * V + j + 1 ≤ maxLen := by unfold maxLen; omega
              have hc2 : (k * V + j + 1) * 8 ≤ 140737488355328 := by omega
              have hj1 : (j : Int) ≤ 0 := by omega
              have hj2 : 0 ≤ (j : Int) := by omega
              clear hjq
              go_wp2_with (at_builtin; refine wpList_app1 _ rfl _ _ 22 rfl W.heap.size 3 Try.underlying22 hi hz0 hz1 hz2 rfl hown rfl rfl rfl hc1 hc2 hsz ?_; intro v' w3 hown' hgrow _)
              go_roundw
              case rel => exact ⟨j + 1, L ++ [1], by omega, by go_num, by rw [← HS.out, ← Int.add_assoc]; exact HF'.out, by rw [HT.out]; exact hown', hB.grown hgrow hsz fun k e => (hown.lt k e).1⟩
              case measure => simp [intOf]; omega
            · have hs : inner (0 : Int) j + 0 = inner (0 : Int) (j + 1 : Nat) := by unfold inner; by_cases hh : (0 : Int) < j; (rw [if_pos hh, if_pos (by omega)]; omega); (rw [if_neg hh, if_neg (by omega)]; omega)
              have HF' := Lib.hid (HF.out.snoc 0 (.inl rfl))
              have HS := Lib.hid hs
              have HT : Hid ((L ++ [0]).map (Value.int .i64) = L.map (Value.int .i64) ++ [Value.int .i64 0]) := by simp [Hid]
              clear hs HF
              have hc1 : k * V + j + 1 ≤ maxLen := by unfold maxLen; omega
              have hc2 : (k * V + j + 1) * 8 ≤ 140737488355328 := by omega
              go_wp2_with (at_builtin; refine wpList_app1 _ rfl _ _ 22 rfl W.heap.size 3 Try.underlying22 hi hz0 hz1 hz2 rfl hown rfl rfl rfl hc1 hc2 hsz ?_; intro v' w3 hown' hgrow _)
              go_roundw
              case rel => exact ⟨j + 1, L ++ [0], by omega, by go_num, by rw [← HS.out, ← Int.add_assoc]; exact HF'.out, by rw [HT.out]; exact hown', hB.grown hgrow hsz fun k e => (hown.lt k e).1⟩
              case measure => simp [intOf]; omega
          · obtain rfl : V = j := by omega
            have hs : inner (0 : Int) V = 1 := by unfold inner; rw [if_pos (by omega)]
            have he : k * V + V = (k + 1) * V := by rw [Nat.add_mul]; omega
            have HF' : Hid (Fair L ((k + 1) * V) ((k + 1 : Nat) : Int)) := by have := HF.out; rw [hs, he] at this; exact this
            rw [he] at hown
            have HO := Lib.hid hown
            clear hown hs he HF
            go_wp2
            go_roundw
            case rel => exact ⟨k + 1, L, by omega, by go_num, HF'.out, HO.out, hB⟩
            case measure => simp [intOf]; omega
    · obtain rfl : k = N := by omega
      obtain ⟨hres1, hres2⟩ := fair_all hF hN64
      have hlen : L.length = k * V := hF.1
      have hkV : k * V ≤ 64 * V := Nat.mul_le_mul_right _ (by omega)
      have hI : ∃ B : Nat, B ≤ wr.heap.size ∧ ∃ AA cc u, u9 = .slice AA (k * V) cc ∧ u = u9 ∧ Ints wr AA (k * V) L := by
        rcases hown.2 with ⟨e, e0⟩ | ⟨g, cap, cur, e, _⟩
        · exact ⟨0, by omega, none, 0, _, by rw [e, e0], rfl, by rw [e0] at hlen ⊢; rw [List.eq_nil_of_length_eq_zero hlen]; exact Reads.none_⟩
        · subst e
          exact ⟨0, by omega, _, _, _, rfl, rfl, Reads.of_own hown⟩
      obtain ⟨_, _, AA, cc, _, rfl, _, hI⟩ := hI
      have c2 : Calls Try.prog 12 #[.int .i64 k, .slice none 0 0, .slice AA (k * V) cc] wr fun e w' => e = .returned (.tuple #[.int .i64 0, .int .i64 k]) ∧ Below wr.heap.size wr w' := by
        have := Run_any none AA 0 0 (k * V) cc [] L k wr Reads.none_ hI (by omega) (by omega)
        rw [hres1, hres2] at this
        exact this
      clear hres1 hres2 hF hlen hr hwf hstart hown hI
      go_wp2_with (first | (go_at_call 12; refine c2.mono ?_; rintro e w1 ⟨rfl, hb1⟩) | (go_at_call 14; refine (fixed_any _).mono ?_; rintro e w3 ⟨rfl, hb3⟩))
      go_ret
      exact ⟨rfl, hB.trans ((hb1.mono hB.size).trans (hb3.mono (Nat.le_trans hB.size hb1.size)))⟩
end Go.Proofs.Ytenflnlcoljieaa
