/- The walk of the law CreditMore. -/
import Derived.Test.YtenflnlcoljieaaWalkCreditParts
import Derived.Deep.RegionHeld3
namespace Go.Proofs.Ytenflnlcoljieaa
open Go.RowKit
attribute [local go_sem high] run_mx run_mn

def fews (ps : List (Int × Int)) (k : Nat) : List Int := (ps.take k).map fun p => mn p.1 p.2
def manys (ps : List (Int × Int)) (k : Nat) : List Int := (ps.take k).map fun p => mx p.1 p.2
def mores (l : List Int) (k : Nat) : List Int := (l.take k).map fun x => mx x 5
theorem fews_succ {ps : List (Int × Int)} {k : Nat} {p : Int × Int} (h : ps[k]? = some p) : (fews ps (k + 1)).map (Value.int .i64) = (fews ps k).map (Value.int .i64) ++ [Value.int .i64 (mn p.1 p.2)] := by
  obtain ⟨hk, rfl⟩ := List.getElem?_eq_some_iff.1 h
  unfold fews
  rw [List.take_succ_eq_append_getElem hk, List.map_append, List.map_append]
  rfl
theorem manys_succ {ps : List (Int × Int)} {k : Nat} {p : Int × Int} (h : ps[k]? = some p) : (manys ps (k + 1)).map (Value.int .i64) = (manys ps k).map (Value.int .i64) ++ [Value.int .i64 (mx p.1 p.2)] := by
  obtain ⟨hk, rfl⟩ := List.getElem?_eq_some_iff.1 h
  unfold manys
  rw [List.take_succ_eq_append_getElem hk, List.map_append, List.map_append]
  rfl
theorem mores_succ {l : List Int} {k : Nat} {x : Int} (h : l[k]? = some x) : (mores l (k + 1)).map (Value.int .i64) = (mores l k).map (Value.int .i64) ++ [Value.int .i64 (mx x 5)] := by
  obtain ⟨hk, rfl⟩ := List.getElem?_eq_some_iff.1 h
  unfold mores
  rw [List.take_succ_eq_append_getElem hk, List.map_append, List.map_append]
  rfl
theorem few_many (ps : List (Int × Int)) (k i : Nat) : (fews ps k)[i]?.getD 0 ≤ (manys ps k)[i]?.getD 0 := by
  unfold fews manys
  rw [List.getElem?_map, List.getElem?_map]
  cases (ps.take k)[i]? with
  | none => simp
  | some p => simp [mn_def, mx_def]; omega
theorem less_more (l : List Int) (i : Nat) : l[i]?.getD 0 ≤ (mores l l.length)[i]?.getD 0 := by
  unfold mores
  rw [List.take_length, List.getElem?_map]
  cases l[i]? with
  | none => simp
  | some p => simp [mx_def]; omega

theorem three_new (w : World) (B : Nat) (hB : B ≤ w.heap.size) : Three (((w.alloc (.cells #[] 3)).alloc (.cells #[] 3)).alloc (.cells #[] 3)) B 3 (.slice (some ⟨w.heap.size, 0, none⟩) 0 0) 0 [] (.slice (some ⟨w.heap.size + 1, 0, none⟩) 0 0) 0 [] (.slice (some ⟨w.heap.size + 2, 0, none⟩) 0 0) 0 [] := by
  have h := two_new w B hB
  have hc := World.ownsRow_lit (e := 3) (base := B) (size := 1) ((w.alloc (.cells #[] 3)).alloc (.cells #[] 3)) #[] 0 (by simp; omega) (by simp [maxLen]) rfl
  have h' : Two (((w.alloc (.cells #[] 3)).alloc (.cells #[] 3)).alloc (.cells #[] 3)) B 3 (.slice (some ⟨w.heap.size, 0, none⟩) 0 0) 0 [] (.slice (some ⟨w.heap.size + 1, 0, none⟩) 0 0) 0 [] := ⟨h.a.alloc _, h.b.alloc _, h.ne⟩
  refine ⟨h', ⟨h'.a, by simpa using hc, fun k hk => ?_⟩, ⟨h'.b, by simpa using hc, fun k hk => ?_⟩⟩
  all_goals simp [Value.ownBlock] at hk ⊢; omega

set_option maxRecDepth 100000 in
set_option maxHeartbeats 3200000 in
theorem walkCreditMore (W : World) (d : Int) (_wd : (Lit.int .i64 d).wf = true) (A : Option Addr) (n c : Nat) (xs : List Int) (w1 : IsInts .i64 8 W A n c xs) (A' : Option Addr) (n' c' : Nat) (ps : List (Int × Int)) (w2 : IsPairs .i64 16 W A' n' c' ps) :
    Calls Try.prog 7 #[.int .i64 d, .slice A n c, .slice A' n' c'] W fun e w' => e = .returned (.bool true) ∧ Below W.heap.size W w' := by
  obtain ⟨i0, hi, hz0, hz1, hz2⟩ := info_parts infoInt
  have hle := w1.le
  have hle' := w2.le
  have hcap := w1.cap
  have hcap' := w2.cap
  unfold maxLen at hcap hcap'
  have h0 := three_new W W.heap.size (Nat.le_refl _)
  go_enter Try.func7, Try.ntmps7
  go_wp2_with fail
  go_loopw [7, 8, 10] (fun va vb i wr => ∃ k : Nat, k ≤ n' ∧ k ≤ 40 ∧ i = .int .i64 k ∧ Three wr W.heap.size 3 va k ((fews ps k).map (Value.int .i64)) vb k ((manys ps k).map (Value.int .i64)) (.slice (some ⟨W.heap.size + 1 + 1, 0, none⟩) 0 0) 0 [] ∧ Below W.heap.size W wr) (fun _ _ i _ => n' - (intOf i).toNat)
  case atStart => exact ⟨0, by omega, by omega, rfl, by simpa [fews, manys] using h0, (((Below.refl _ _).alloc (Nat.le_refl _) _).alloc (by simp) _).alloc (by simp; omega) _⟩
  case round =>
    clear h0
    obtain ⟨k, hk, hk40, rfl, hT, hB⟩ := hrel
    by_cases hlt : k < n' ∧ k < 40
    · obtain ⟨hlt, hlt2⟩ := hlt
      obtain ⟨ad, p, rfl, hp, hg, hb, hc⟩ := w2.at_ (by omega) (fun _ => rfl) hlt
      have c0 : wr.cell? (ad.add (k * 2)) = some (.int .i64 p.1) := (hB.cell (by rw [block_of_add]; exact hb)).trans (hc 0 (by omega))
      have c1 : wr.cell? ⟨(ad.add (k * 2)).block, (ad.add (k * 2)).off + 1, none⟩ = some (.int .i64 p.2) := cell_off (by rw [add_of_add]; exact (hB.cell (by rw [block_of_add]; exact hb)).trans (hc 1 (by omega)))
      have e1 := Lib.hid (fews_succ hp)
      have e2 := Lib.hid (manys_succ hp)
      have hsz := hB.size
      have hm1 : k + 1 ≤ maxLen := by unfold maxLen; omega
      have hm2 : (k + 1) * 8 ≤ 140737488355328 := by omega
      have hi0 : (0 : Int) ≤ (k : Int) := by omega
      have hi1 : (k : Int) < (n' : Int) := by omega
      have hbb : (ad.add (k * 2)).block < W.heap.size := by rw [block_of_add]; exact hb
      have hna : u7.ownBlock ≠ some (ad.add (k * 2)).block := fun e => by have := (hT.ab.a.lt _ e).1; omega
      clear hp hc
      go_wp2_with fail
      go_region_held3 (fun w' => w'.cell? (ad.add (k * 2)) = some (.int .i64 p.1) ∧ w'.cell? ⟨(ad.add (k * 2)).block, (ad.add (k * 2)).off + 1, none⟩ = some (.int .i64 p.2))
        (first | exact ⟨hgrow.cell c0 (fun e => hna e.symm), hgrow.cell c1 (fun e => hna e.symm)⟩ | go_keep)
        ((refine step_app1 _ (by rfl) _ _ 22 (by rfl) W.heap.size 3 Try.underlying22 hi hz0 hz1 hz2 rfl hT.ab.a (by rfl) (by rfl) (by rfl) hm1 hm2 hsz ?_; intro va' w3 hoa hgrow hnn))
      have hT2 := hT.grow_a hoa hgrow (hnn.imp id fun h => ⟨_, by simp, h⟩)
      have hB2 := hB.grown hgrow hsz fun q e => (hT.ab.a.lt q e).1
      have c0' := hgrow.cell c0 (fun e => hna e.symm)
      have c1' := hgrow.cell c1 (fun e => hna e.symm)
      have hsz2 := hB2.size
      have hnb : u8.ownBlock ≠ some (ad.add (k * 2)).block := fun e => by have := (hT.ab.b.lt _ e).1; omega
      clear hT hoa hgrow hnn c0 c1 hna hB hsz
      go_wp2_with fail
      go_region_held3 (fun w' => w'.cell? (ad.add (k * 2)) = some (.int .i64 p.1) ∧ w'.cell? ⟨(ad.add (k * 2)).block, (ad.add (k * 2)).off + 1, none⟩ = some (.int .i64 p.2))
        (first | exact ⟨hgrow.cell c0' (fun e => hnb e.symm), hgrow.cell c1' (fun e => hnb e.symm)⟩ | go_keep)
        ((refine step_app1 _ (by rfl) _ _ 22 (by rfl) W.heap.size 3 Try.underlying22 hi hz0 hz1 hz2 rfl hT2.ab.b (by rfl) (by rfl) (by rfl) hm1 hm2 hsz2 ?_; intro vb' w4 hob hgrow hnn))
      have hT3 := hT2.grow_b hob hgrow (hnn.imp id fun h => ⟨_, by simp, h⟩)
      have hB3 := hB2.grown hgrow hsz2 fun q e => (hT2.ab.b.lt q e).1
      clear hT2 hob hgrow hnn c0' c1' hnb hB2 hsz2
      go_wp2_with fail
      go_roundw
      case rel => exact ⟨k + 1, by omega, by omega, by go_num, by rw [e1.out, e2.out]; exact hT3, hB3⟩
      case measure => simp [intOf]; omega
    · have hgd : (k < n' ∧ ¬ k < 40) ∨ ¬ k < n' := by omega
      clear hlt w2
      have hm1 : mn n 40 = ((min n 40 : Nat) : Int) := by rw [mn_def]; omega
      have h1 := w1.ints.take (min n 40) (by omega)
      have hx1 : min n 40 ≤ 40 := by omega
      have hx2 : min n 40 ≤ n := by omega
      have hy1 : min n 40 ≤ c := by omega
      have hsz := hB.size
      generalize min n 40 = m at *
      generalize xs.take m = l at *
      clear w1
      have hlm : l.length = m := by have := h1.1; simpa using this
      have hT0 : Three wr W.heap.size 3 u7 k ((fews ps k).map (Value.int .i64)) u8 k ((manys ps k).map (Value.int .i64)) (.slice (some ⟨W.heap.size + 1 + 1, 0, none⟩) 0 0) 0 ((mores l 0).map (Value.int .i64)) := hT
      clear hT
      have HL := Lib.hid hlm
      clear hlm
      rcases hgd with ⟨g1, g2⟩ | g1
      all_goals
        go_wp2_with fail
        go_loopw [9, 11] (fun vc i w' => ∃ j : Nat, j ≤ m ∧ i = .int .i64 j ∧ Three w' W.heap.size 3 u7 k ((fews ps k).map (Value.int .i64)) u8 k ((manys ps k).map (Value.int .i64)) vc j ((mores l j).map (Value.int .i64)) ∧ Below W.heap.size W w') (fun _ i _ => m - (intOf i).toNat)
        case atStart => exact ⟨0, by omega, rfl, hT0, hB⟩
        case round =>
          clear hT0 hB hsz
          obtain ⟨j, hj, rfl, hT, hB⟩ := hrel
          have hsz := hB.size
          by_cases hlt : j < m
          · obtain ⟨ad, u, rfl, hb, hx, hc⟩ := (h1.keep hB).at_ hlt
            simp only [List.getElem?_map, Option.map_eq_some_iff] at hx
            obtain ⟨x, hx, rfl⟩ := hx
            have e1 := Lib.hid (mores_succ hx)
            have hm1 : j + 1 ≤ maxLen := by unfold maxLen; omega
            have hm2 : (j + 1) * 8 ≤ 140737488355328 := by omega
            clear hx
            go_wp2_with (at_builtin; refine wpList_app1 _ rfl _ _ 22 rfl W.heap.size 3 Try.underlying22 hi hz0 hz1 hz2 rfl hT.ac.b rfl rfl rfl hm1 hm2 hsz ?_; intro vc' w3 hoc hgc hnc; have hT2 := hT.grow_c hoc hgc (hnc.imp id fun h => ⟨_, by simp, h⟩); have hB2 := hB.grown hgc hsz fun q e => (hT.ac.b.lt q e).1; clear hT hoc hgc hnc)
            go_roundw
            case rel => exact ⟨j + 1, by omega, by go_num, by rw [e1.out]; exact hT2, hB2⟩
            case measure => simp [intOf]; omega
          · obtain rfl : m = j := by omega
            obtain ⟨FA, fa, hfa, _⟩ := own_slice hT.ab.a
            obtain ⟨MA, ma, hma, _⟩ := own_slice hT.ab.b
            obtain ⟨OA, oa, hoa, _⟩ := own_slice hT.ac.b
            subst hfa hma hoa
            have r1 := runS_picks l (fews ps k) (manys ps k) d (few_many ps k) (max m k)
            have r2 := runS_rates l (mores l m) (fews ps k) d (by have := less_more l; rw [HL.out] at this; exact this) (max m k)
            have b1 := runS_bd l (fews ps k) d (max m k)
            have run1 : ∀ (w : World), Below W.heap.size W w → Three w W.heap.size 3 (.slice FA k fa) k ((fews ps k).map (Value.int .i64)) (.slice MA k ma) k ((manys ps k).map (Value.int .i64)) (.slice OA m oa) m ((mores l m).map (Value.int .i64)) → Calls Try.prog 12 #[.int .i64 d, .slice A m c, .slice FA k fa] w fun e w' => e = .returned (.tuple #[.int .i64 (runS l (fews ps k) d (max m k)).1, .int .i64 (runS l (fews ps k) d (max m k)).2]) ∧ Below w.heap.size w w' :=
              fun w hb ht => Run_any A FA m c k fa l (fews ps k) d w (h1.keep hb) (Reads.of_own ht.ab.a) (by omega) (by omega)
            have run2 : ∀ (w : World), Below W.heap.size W w → Three w W.heap.size 3 (.slice FA k fa) k ((fews ps k).map (Value.int .i64)) (.slice MA k ma) k ((manys ps k).map (Value.int .i64)) (.slice OA m oa) m ((mores l m).map (Value.int .i64)) → Calls Try.prog 12 #[.int .i64 d, .slice A m c, .slice MA k ma] w fun e w' => e = .returned (.tuple #[.int .i64 (runS l (manys ps k) d (max m k)).1, .int .i64 (runS l (manys ps k) d (max m k)).2]) ∧ Below w.heap.size w w' :=
              fun w hb ht => Run_any A MA m c k ma l (manys ps k) d w (h1.keep hb) (Reads.of_own ht.ab.b) (by omega) (by omega)
            have run3 : ∀ (w : World), Below W.heap.size W w → Three w W.heap.size 3 (.slice FA k fa) k ((fews ps k).map (Value.int .i64)) (.slice MA k ma) k ((manys ps k).map (Value.int .i64)) (.slice OA m oa) m ((mores l m).map (Value.int .i64)) → Calls Try.prog 12 #[.int .i64 d, .slice OA m oa, .slice FA k fa] w fun e w' => e = .returned (.tuple #[.int .i64 (runS (mores l m) (fews ps k) d (max m k)).1, .int .i64 (runS (mores l m) (fews ps k) d (max m k)).2]) ∧ Below w.heap.size w w' :=
              fun w hb ht => Run_any OA FA m oa k fa (mores l m) (fews ps k) d w (Reads.of_own ht.ac.b) (Reads.of_own ht.ab.a) (by omega) (by omega)
            generalize runS l (fews ps k) d (max m k) = p at *
            generalize runS l (manys ps k) d (max m k) = q at *
            generalize runS (mores l m) (fews ps k) d (max m k) = o at *
            clear h1 HL b1
            go_wp2_with fail
            refine (run1 _ hB hT).mono ?_
            rintro e w5 ⟨rfl, hb5⟩
            have hT5 := hT.below hb5 (Nat.le_refl _)
            have hB5 := hB.trans (hb5.mono hB.size)
            clear hT hb5 run1
            go_wp2_with fail
            refine (run2 _ hB5 hT5).mono ?_
            rintro e w6 ⟨rfl, hb6⟩
            have hT6 := hT5.below hb6 (Nat.le_refl _)
            have hB6 := hB5.trans (hb6.mono hB5.size)
            clear hT5 hb6 run2
            go_wp2_with fail
            refine (run3 _ hB6 hT6).mono ?_
            rintro e w7 ⟨rfl, hb7⟩
            have hB7 := hB6.trans (hb7.mono hB6.size)
            clear hT6 hb7 run3
            go_wp2_with (go_at_call 14; refine (fixed_any _).mono ?_; rintro e w9 ⟨rfl, hb9⟩)
            go_ret
            exact ⟨rfl, hB7.trans (hb9.mono hB7.size)⟩
end Go.Proofs.Ytenflnlcoljieaa
