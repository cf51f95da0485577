/- The walk of the law CreditParts. -/
import Derived.Test.YtenflnlcoljieaaWalkCreditFair
namespace Go.Proofs.Ytenflnlcoljieaa
open Go.RowKit
attribute [local go_sem high] run_mx run_mn

def fsts (ps : List (Int × Int)) (k : Nat) : List Int := (ps.take k).map (·.1)
def snds (ps : List (Int × Int)) (k : Nat) : List Int := (ps.take k).map (·.2)
theorem fsts_succ {ps : List (Int × Int)} {k : Nat} {p : Int × Int} (h : ps[k]? = some p) : (fsts ps (k + 1)).map (Value.int .i64) = (fsts ps k).map (Value.int .i64) ++ [Value.int .i64 p.1] := by
  obtain ⟨hk, rfl⟩ := List.getElem?_eq_some_iff.1 h
  unfold fsts
  rw [List.take_succ_eq_append_getElem hk, List.map_append, List.map_append]
  rfl
theorem snds_succ {ps : List (Int × Int)} {k : Nat} {p : Int × Int} (h : ps[k]? = some p) : (snds ps (k + 1)).map (Value.int .i64) = (snds ps k).map (Value.int .i64) ++ [Value.int .i64 p.2] := by
  obtain ⟨hk, rfl⟩ := List.getElem?_eq_some_iff.1 h
  unfold snds
  rw [List.take_succ_eq_append_getElem hk, List.map_append, List.map_append]
  rfl
theorem fsts_length {ps : List (Int × Int)} {k : Nat} (h : k ≤ ps.length) : (fsts ps k).length = k := by simp [fsts]; omega
theorem snds_length {ps : List (Int × Int)} {k : Nat} (h : k ≤ ps.length) : (snds ps k).length = k := by simp [snds]; omega

theorem two_new (w : World) (B : Nat) (hB : B ≤ w.heap.size) : Two ((w.alloc (.cells #[] 3)).alloc (.cells #[] 3)) B 3 (.slice (some ⟨w.heap.size, 0, none⟩) 0 0) 0 [] (.slice (some ⟨w.heap.size + 1, 0, none⟩) 0 0) 0 [] := by
  refine ⟨(World.ownsRow_lit w #[] 0 hB (by simp [maxLen]) rfl).alloc _, by simpa using World.ownsRow_lit (w.alloc (.cells #[] 3)) #[] 0 (by simp; omega) (by simp [maxLen]) rfl, fun k hk => ?_⟩
  simp [Value.ownBlock] at hk ⊢
  omega

set_option maxRecDepth 100000 in
theorem walkCreditParts (W : World) (d : Int) (_wd : (Lit.int .i64 d).wf = true) (A : Option Addr) (n c : Nat) (xs : List (Int × Int)) (w1 : IsPairs .i64 16 W A n c xs) (A' : Option Addr) (n' c' : Nat) (ys : List (Int × Int)) (w2 : IsPairs .i64 16 W A' n' c' ys) :
    Calls Try.prog 6 #[.int .i64 d, .slice A n c, .slice A' n' c'] W fun e w' => e = .returned (.bool true) ∧ Below W.heap.size W w' := by
  obtain ⟨i0, hi, hz0, hz1, hz2⟩ := info_parts infoInt
  have hle := w1.le
  have hle' := w2.le
  have hcap := w1.cap
  have hcap' := w2.cap
  unfold maxLen at hcap hcap'
  go_enter Try.func6, Try.ntmps6
  go_wp2_with fail
  go_loopw [7, 8, 9] (fun va vb i wr => ∃ k : Nat, k ≤ n ∧ k ≤ 20 ∧ i = .int .i64 k ∧ Two wr W.heap.size 3 va k ((fsts xs k).map (Value.int .i64)) vb k ((snds xs k).map (Value.int .i64)) ∧ Below W.heap.size W wr) (fun _ _ i _ => n - (intOf i).toNat)
  case atStart => exact ⟨0, by omega, by omega, rfl, by simpa [fsts, snds] using two_new W W.heap.size (Nat.le_refl _), ((Below.refl _ _).alloc (Nat.le_refl _) _).alloc (by simp) _⟩
  case round =>
    obtain ⟨k, hk, hk20, rfl, hT, hB⟩ := hrel
    by_cases hlt : k < n ∧ k < 20
    · obtain ⟨hlt, hlt2⟩ := hlt
      obtain ⟨ad, p, rfl, hp, hg, hb, hc⟩ := w1.at_ (by omega) (fun _ => rfl) hlt
      have c0 : wr.cell? (ad.add (k * 2)) = some (.int .i64 p.1) := (hB.cell (by rw [block_of_add]; exact hb)).trans (hc 0 (by omega))
      have c1 : wr.cell? ⟨(ad.add (k * 2)).block, (ad.add (k * 2)).off + 1, none⟩ = some (.int .i64 p.2) := cell_off (by rw [add_of_add]; exact (hB.cell (by rw [block_of_add]; exact hb)).trans (hc 1 (by omega)))
      have e1 := Lib.hid (fsts_succ hp)
      have e2 := Lib.hid (snds_succ hp)
      have hsz := hB.size
      have hm1 : k + 1 ≤ maxLen := by unfold maxLen; omega
      have hm2 : (k + 1) * 8 ≤ 140737488355328 := by omega
      clear hp hc
      go_wp2_with (first | (at_builtin; refine wpList_app1 _ rfl _ _ 22 rfl W.heap.size 3 Try.underlying22 hi hz0 hz1 hz2 rfl hT.a rfl rfl rfl hm1 hm2 hsz ?_; intro va' w3 hoa hga hna; have hT2 := hT.grow_a hoa hga (hna.imp id fun h => ⟨_, by simp, h⟩); have hB2 := hB.grown hga hsz fun q e => (hT.a.lt q e).1; have hsz2 := hB2.size; have c1' := (hga.cell c1 (fun e => by have := (hT.a.lt _ e.symm).1; simp only [block_of_add] at this; omega)); clear hT c0 c1 hoa hga hna) | (at_builtin; refine wpList_app1 _ rfl _ _ 22 rfl W.heap.size 3 Try.underlying22 hi hz0 hz1 hz2 rfl hT2.b rfl rfl rfl hm1 hm2 hsz2 ?_; intro vb' w4 hob hgb hnb; have hT3 := hT2.grow_b hob hgb (hnb.imp id fun h => ⟨_, by simp, h⟩); have hB3 := hB2.grown hgb hsz2 fun q e => (hT2.b.lt q e).1; clear hT2 c1' hob hgb hnb))
      go_roundw
      case rel => exact ⟨k + 1, by omega, by omega, by go_num, by rw [e1.out, e2.out]; exact hT3, hB3⟩
      case measure => simp [intOf]; omega
    · have hk' : k = min n 20 := by omega
      have hgd : (k < n ∧ ¬ k < 20) ∨ ¬ k < n := by omega
      have hl1 := fsts_length (ps := xs) (k := k) (by have := w1.len; omega)
      have hl2 := snds_length (ps := xs) (k := k) (by have := w1.len; omega)
      clear hlt hk' w1
      obtain ⟨CA, ca, hva, hra⟩ := own_slice hT.a
      obtain ⟨CB, cb, hvb, hrb⟩ := own_slice hT.b
      have hsz := hB.size
      subst hva hvb
      have run1 : Calls Try.prog 12 #[.int .i64 d, .slice CA k ca, .slice CB k cb] wr fun e w' => e = .returned (.tuple #[.int .i64 (runS (fsts xs k) (snds xs k) d k).1, .int .i64 (runS (fsts xs k) (snds xs k) d k).2]) ∧ Below wr.heap.size wr w' := by
        have := Run_any CA CB k ca k cb (fsts xs k) (snds xs k) d wr hra hrb (by omega) (by omega)
        rw [Nat.max_self] at this
        exact this
      generalize hx : runS (fsts xs k) (snds xs k) d k = x at run1
      have HX := Lib.hid hx
      have HL1 := Lib.hid hl1
      have HL2 := Lib.hid hl2
      clear hx hl1 hl2 hra hrb
      rcases hgd with ⟨g1, g2⟩ | g1
      all_goals
        go_wp2_with (go_at_call 12; refine run1.mono ?_; rintro e w1 ⟨rfl, hb1⟩; have hT1 := hT.below hb1 (Nat.le_refl _); have hB1 := hB.trans (hb1.mono hsz); have hsz1 := hB1.size; clear hT run1)
        have hT2i : Two ((w1.alloc (.cells #[] 3)).alloc (.cells #[] 3)) w1.heap.size 3 (.slice (some ⟨w1.heap.size, 0, none⟩) 0 0) 0 ((fsts ys 0).map (Value.int .i64)) (.slice (some ⟨w1.heap.size + 1, 0, none⟩) 0 0) 0 ((snds ys 0).map (Value.int .i64)) := by simpa [fsts, snds] using two_new w1 w1.heap.size (Nat.le_refl _)
        clear hb1
        go_loopw [12, 13, 14] (fun va vb i wr => ∃ k' : Nat, k' ≤ n' ∧ k' ≤ 20 ∧ i = .int .i64 k' ∧ Two wr w1.heap.size 3 va k' ((fsts ys k').map (Value.int .i64)) vb k' ((snds ys k').map (Value.int .i64)) ∧ Below w1.heap.size w1 wr) (fun _ _ i _ => n' - (intOf i).toNat)
        case atStart => exact ⟨0, by omega, by omega, rfl, hT2i, ((Below.refl _ _).alloc (Nat.le_refl _) _).alloc (by simp) _⟩
        case round =>
          clear hT2i
          obtain ⟨k', hk', hk20', rfl, hT, hBB⟩ := hrel
          by_cases hlt : k' < n' ∧ k' < 20
          · obtain ⟨hlt, hlt2⟩ := hlt
            obtain ⟨ad, p, rfl, hp, hg, hb, hc⟩ := w2.at_ (by omega) (fun _ => rfl) hlt
            have hBW := hB1.trans (hBB.mono hsz1)
            have c0 : wr.cell? (ad.add (k' * 2)) = some (.int .i64 p.1) := (hBW.cell (by rw [block_of_add]; exact hb)).trans (hc 0 (by omega))
            have c1 : wr.cell? ⟨(ad.add (k' * 2)).block, (ad.add (k' * 2)).off + 1, none⟩ = some (.int .i64 p.2) := cell_off (by rw [add_of_add]; exact (hBW.cell (by rw [block_of_add]; exact hb)).trans (hc 1 (by omega)))
            have e1 := Lib.hid (fsts_succ hp)
            have e2 := Lib.hid (snds_succ hp)
            have hsz := hBB.size
            have hm1 : k' + 1 ≤ maxLen := by unfold maxLen; omega
            have hm2 : (k' + 1) * 8 ≤ 140737488355328 := by omega
            clear hp hc hT1 hB1
            go_wp2_with (first | (at_builtin; refine wpList_app1 _ rfl _ _ 22 rfl w1.heap.size 3 Try.underlying22 hi hz0 hz1 hz2 rfl hT.a rfl rfl rfl hm1 hm2 hsz ?_; intro va' w3 hoa hga hna; have hT2 := hT.grow_a hoa hga (hna.imp id fun h => ⟨_, by simp, h⟩); have hB2 := hBB.grown hga hsz fun q e => (hT.a.lt q e).1; have hsz2 := hB2.size; have c1' := (hga.cell c1 (fun e => by have := (hT.a.lt _ e.symm).1; simp only [block_of_add] at this; omega)); clear hT c0 c1 hoa hga hna) | (at_builtin; refine wpList_app1 _ rfl _ _ 22 rfl w1.heap.size 3 Try.underlying22 hi hz0 hz1 hz2 rfl hT2.b rfl rfl rfl hm1 hm2 hsz2 ?_; intro vb' w4 hob hgb hnb; have hT3 := hT2.grow_b hob hgb (hnb.imp id fun h => ⟨_, by simp, h⟩); have hB3 := hB2.grown hgb hsz2 fun q e => (hT2.b.lt q e).1; clear hT2 c1' hob hgb hnb))
            go_roundw
            case rel => exact ⟨k' + 1, by omega, by omega, by go_num, by rw [e1.out, e2.out]; exact hT3, hB3⟩
            case measure => simp [intOf]; omega
          · have hgd : (k' < n' ∧ ¬ k' < 20) ∨ ¬ k' < n' := by omega
            have hl1 := fsts_length (ps := ys) (k := k') (by have := w2.len; omega)
            have hl2 := snds_length (ps := ys) (k := k') (by have := w2.len; omega)
            clear hlt w2
            obtain ⟨CC, cc, hvc, hrc⟩ := own_slice hT.a
            obtain ⟨CE, ce, hve, hre⟩ := own_slice hT.b
            subst hvc hve
            have run2 : Calls Try.prog 12 #[.int .i64 x.1, .slice CC k' cc, .slice CE k' ce] wr fun e w' => e = .returned (.tuple #[.int .i64 (runS (fsts ys k') (snds ys k') x.1 k').1, .int .i64 (runS (fsts ys k') (snds ys k') x.1 k').2]) ∧ Below wr.heap.size wr w' := by
              have := Run_any CC CE k' cc k' ce (fsts ys k') (snds ys k') x.1 wr hrc hre (by omega) (by omega)
              rw [Nat.max_self] at this
              exact this
            have run3 : ∀ (w : World) (A3 B3 : Option Addr) (a3 b3 : Nat), Reads w w.heap.size 1 A3 (k + k') ((fsts xs k).map (Value.int .i64) ++ (fsts ys k').map (Value.int .i64)) → Reads w w.heap.size 1 B3 (k + k') ((snds xs k).map (Value.int .i64) ++ (snds ys k').map (Value.int .i64)) →
                Calls Try.prog 12 #[.int .i64 d, .slice A3 (k + k') a3, .slice B3 (k + k') b3] w fun e w' => e = .returned (.tuple #[.int .i64 (runS (fsts ys k') (snds ys k') x.1 k').1, .int .i64 (x.2 + (runS (fsts ys k') (snds ys k') x.1 k').2)]) ∧ Below w.heap.size w w' := by
              intro w A3 B3 a3 b3 h1 h2
              rw [← List.map_append] at h1 h2
              have := Run_any A3 B3 (k + k') a3 (k + k') b3 _ _ d w h1 h2 (by omega) (by omega)
              rw [Nat.max_self, runS_append _ _ _ _ d k k' HL1.out HL2.out, HX.out] at this
              exact this
            have bx : 0 ≤ x.2 ∧ x.2 ≤ 1440 := by have := runS_bd (fsts xs k) (snds xs k) d k; rw [HX.out] at this; omega
            have hy := runS_bd (fsts ys k') (snds ys k') x.1 k'
            generalize runS (fsts ys k') (snds ys k') x.1 k' = y at run2 run3 hy
            have by_ : 0 ≤ y.2 ∧ y.2 ≤ 1440 := by omega
            clear hy hl1 hl2 HL1 HL2 HX hrc hre
            have hszB := hBB.size
            have hTab := hT1.below hBB (Nat.le_refl _)
            have hm1 : k + k' ≤ maxLen := by unfold maxLen; omega
            have hm2 : (k + k') * 8 ≤ 140737488355328 := by omega
            have o1 : ∀ u ∈ (fsts ys k').map (Value.int .i64), u.oneCell' = true := ints_oneCell _ _
            have o2 : ∀ u ∈ (snds ys k').map (Value.int .i64), u.oneCell' = true := ints_oneCell _ _
            have hBW := hB1.trans (hBB.mono hsz1)
            have la : ∀ q, Value.ownBlock (.slice CA k ca) = some q → q < w1.heap.size := fun q e => (hT1.a.lt q e).2
            have lb : ∀ q, Value.ownBlock (.slice CB k cb) = some q → q < w1.heap.size := fun q e => (hT1.b.lt q e).2
            clear hT1 hB1 hBB
            rcases hgd with ⟨g1, g2⟩ | g1
            all_goals
              go_wp2_with (first | (go_at_call 12; with_reducible refine run2.mono ?_; rintro e w5 ⟨rfl, hb5⟩; have hT5 := hT.below hb5 (Nat.le_refl _); have hTab5 := hTab.below hb5 (Nat.le_refl _); have hB5 := hBW.trans (hb5.mono (by omega)); have hsz5 := hB5.size; clear hT hTab run2 hb5 hBW hszB) | (at_builtin; refine wpList_append_any _ rfl _ _ 22 rfl W.heap.size 3 i0 (.int .i64 0) 1 8 Try.underlying22 hi hz0 hz1 hz2 rfl (by decide) _ _ _ rfl hTab5.a _ _ _ _ _ rfl (Reads.of_own hT5.a) o1 hm1 hm2 hsz5 ?_; intro va' w6 hoa hga hna; obtain ⟨A3, a3, rfl, ra⟩ := own_slice hoa; have hTab6 := hTab5.grow_a hoa hga (hna.imp id fun h => ⟨_, Nat.le_refl _, h⟩); have hT6 := hT5.kept hga la; have hB6 := hB5.grown hga hsz5 fun q e => (hTab5.a.lt q e).1; have hsz6 := hB6.size; clear hT5 hTab5 hB5 hsz5 hoa hga hna ra la) | (at_builtin; refine wpList_append_any _ rfl _ _ 22 rfl W.heap.size 3 i0 (.int .i64 0) 1 8 Try.underlying22 hi hz0 hz1 hz2 rfl (by decide) _ _ _ rfl hTab6.b _ _ _ _ _ rfl (Reads.of_own hT6.b) o2 hm1 hm2 hsz6 ?_; intro vb' w7 hob hgb hnb; obtain ⟨B3, b3, rfl, rb⟩ := own_slice hob; have hTab7 := hTab6.grow_b hob hgb (hnb.imp id fun h => ⟨_, Nat.le_refl _, h⟩); have hB7 := hB6.grown hgb hsz6 fun q e => (hTab6.b.lt q e).1; clear hT6 hTab6 hB6 hsz6 hob hgb hnb rb lb) | (go_at_call 12; with_reducible refine (run3 _ _ _ _ _ (Reads.of_own hTab7.a) (Reads.of_own hTab7.b)).mono ?_; rintro e w8 ⟨rfl, hb8⟩; have hB8 := hB7.trans (hb8.mono hB7.size); clear hTab7 hB7 hb8 run3) | (go_at_call 14; refine (fixed_any _).mono ?_; rintro e w9 ⟨rfl, hb9⟩))
              go_ret
              exact ⟨rfl, hB8.trans (hb9.mono hB8.size)⟩
end Go.Proofs.Ytenflnlcoljieaa
