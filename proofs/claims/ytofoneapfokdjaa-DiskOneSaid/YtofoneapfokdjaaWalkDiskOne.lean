/- The walk of the law DiskOne. -/
import Derived.Test.YtofoneapfokdjaaOnePure
namespace Go.Proofs.Ytofoneapfokdjaa
open Go.RowKit
attribute [local go_sem high] run_mx run_mn

def oneRow (xs : List Int) (keep : List Bool) (k : Nat) : Array Value := #[.string (oneW xs keep k 0), .string (oneW xs keep k 1), .string (oneW xs keep k 2), .string (oneW xs keep k 3)]
theorem oneRow_set (xs : List Int) (keep : List Bool) (k q : Nat) (s : ByteArray) (hF : oneF xs k = ((q : Int), s)) (hq : q < 4) (hb : keep[k]?.getD false = true) : (oneRow xs keep k).setIfInBounds q (.string s) = oneRow xs keep (k + 1) := by
  have e : ∀ i, oneW xs keep (k + 1) i = if (q : Int) = i then s else oneW xs keep k i := by
    intro i
    show (if (oneF xs k).1 = i ∧ keep[k]?.getD false = true then (oneF xs k).2 else oneW xs keep k i) = _
    rw [hF, hb]; simp
  unfold oneRow
  rw [e 0, e 1, e 2, e 3]
  match q, hq with
  | 0, _ => rfl
  | 1, _ => rfl
  | 2, _ => rfl
  | 3, _ => rfl
theorem oneRow_same (xs : List Int) (keep : List Bool) (k : Nat) (hb : keep[k]?.getD false = false) : oneRow xs keep (k + 1) = oneRow xs keep k := by
  have e : ∀ i, oneW xs keep (k + 1) i = oneW xs keep k i := by
    intro i
    show (if (oneF xs k).1 = i ∧ keep[k]?.getD false = true then (oneF xs k).2 else oneW xs keep k i) = _
    rw [hb]; simp
  unfold oneRow
  rw [e 0, e 1, e 2, e 3]
theorem oneRow_at (xs : List Int) (keep : List Bool) (k q : Nat) (hq : q < 4) : (oneRow xs keep k)[q]? = some (.string (oneW xs keep k q)) := by
  match q, hq with
  | 0, _ => rfl
  | 1, _ => rfl
  | 2, _ => rfl
  | 3, _ => rfl

set_option maxRecDepth 100000 in
set_option maxHeartbeats 4000000 in
theorem walkDiskOne (W : World) (A : Option Addr) (n c : Nat) (xs : List Int) (w1 : IsInts .u8 1 W A n c xs) (A' : Option Addr) (n' c' : Nat) (keep : List Bool) (w2 : IsBools W A' n' c' keep) :
    Calls Try.prog 4 #[.slice A n c, .slice A' n' c'] W fun e w' => e = .returned (.bool true) ∧ Below W.heap.size W w' := by
  have h0 := Disks.start W
  have hle := w1.le
  have hcap := w1.cap
  have hle' := w2.le
  have hcap' := w2.cap
  have hr2 := w2.reads_
  have hlen2 := w2.len
  clear w2
  unfold maxLen at hcap hcap'
  go_enter Try.func4, Try.ntmps4
  go_wp2_with (first
    | (go_at_call 9; with_reducible refine (DNew h0 4 (by omega) (by omega)).mono ?_; rintro e v1 ⟨g, rfl, h1, _⟩; clear h0)
    | (go_at_call 10; with_reducible refine (Zero_any _).mono ?_; rintro e w3 ⟨rfl, rfl⟩))
  have hP := Pin.new h1 9 #[.string zeros, .string zeros, .string zeros, .string zeros]
  have h2 := h1.alloc (.cells #[.string zeros, .string zeros, .string zeros, .string zeros] 9)
  clear h1
  go_loopw [8] (fun i wr => ∃ k : Nat, k ≤ n ∧ k ≤ 20 ∧ i = .int .i64 k ∧ Disks W.heap.size W wr [(g, oneD xs k)] ∧ Pin wr [(g, oneD xs k)] W.heap.size v1.heap.size 9 (oneRow xs keep k)) (fun i _ => n - (intOf i).toNat)
  case atStart => exact ⟨0, by omega, by omega, rfl, h2, hP⟩
  case round =>
    clear h2 hP
    obtain ⟨k, hk, hk20, rfl, hD, hP⟩ := hrel
    by_cases hlt : k < n ∧ k < 20
    · obtain ⟨hlt, hlt2⟩ := hlt
      obtain ⟨ad, x, rfl, hx, hwf, hcW, hbl⟩ := w1.cell_ (Below.refl _ _) hlt
      have hwf := bounds_u8 hwf
      obtain ⟨we, ws, re, rv⟩ := oneD_write xs k
      have hpl : (oneD xs k).pend.length = k := by rw [(oneD_facts xs k).pend]; simp
      have hpl2 : (oneD xs (k + 1)).pend.length = k + 1 := by rw [(oneD_facts xs (k + 1)).pend]; simp
      obtain ⟨q, hq, hq4⟩ : ∃ q : Nat, x % 4 = q ∧ q < 4 := ⟨(x % 4).toNat, by omega, by omega⟩
      have hF : oneF xs k = ((q : Int), full (chr ((k : Int) + 1))) := by unfold oneF; rw [hx]; show (x % 4, _) = _; rw [hq]
      rw [hF] at we ws re rv
      have hw1 : ∀ w, Disks W.heap.size W w [(g, oneD xs k)] → Calls Try.prog 12 #[.pointer (some ⟨g, 0, none⟩), .int .i64 q, .string (full (chr ((k : Int) + 1)))] w fun e w' => e = .returned (.int .i64 0) ∧ Disks W.heap.size W w' [(g, oneD xs (k + 1))] ∧ Turn w w' [(g, oneD xs k)] [(g, oneD xs (k + 1))] := fun w h => by
        have := TWrite [] [] h q (full (chr ((k : Int) + 1))) (by omega)
        rw [we, ws] at this; exact this
      have hw2 : ∀ w, Disks W.heap.size W w [(g, oneD xs (k + 1))] → Calls Try.prog 16 #[.pointer (some ⟨g, 0, none⟩), .int .i64 q] w fun e w' => e = .returned (.tuple #[.string (full (chr ((k : Int) + 1))), .int .i64 0]) ∧ Disks W.heap.size W w' [(g, oneD xs (k + 1))] ∧ Turn w w' [(g, oneD xs (k + 1))] [(g, oneD xs (k + 1))] := fun w h => by
        have := TRead [] [] h q (by omega)
        rw [re, rv] at this; exact this
      have hval : (wrap64 x).tmod 4 = (q : Int) := by
        rw [show wrap64 x = x from by unfold wrap64; omega, Int.tmod_eq_emod_of_nonneg hwf.1]; exact hq
      have hcase : (k < n' ∧ ∃ (ad2 : Addr) (b : Bool), A' = some ad2 ∧ (ad2.add k).block < W.heap.size ∧ W.cell? (ad2.add k) = some (.bool b) ∧ keep[k]?.getD false = b) ∨ (¬ k < n' ∧ keep[k]?.getD false = false) := by
        by_cases h : k < n'
        · obtain ⟨ad2, u2, rfl, hb2, hx2, hc2⟩ := hr2.at_ h
          simp only [List.getElem?_map, Option.map_eq_some_iff] at hx2
          obtain ⟨b, hb', rfl⟩ := hx2
          exact .inl ⟨h, ad2, b, rfl, by rw [block_of_add]; exact hb2, hc2, by rw [hb']; rfl⟩
        · exact .inr ⟨h, by rw [List.getElem?_eq_none (by omega)]; rfl⟩
      have c1 := (hD.base.cell hbl).trans hcW
      have c1' : (wr.alloc (.cells #[.int .u8 ((k : Int) + 1)] 5)).cell? (ad.add k) = some (.int .u8 x) := by rw [World.cell?_alloc_lt _ _ _ (lt_of_cell c1)]; exact c1
      have hcv := conv_chr wr ((k : Int) + 1) (by omega)
      have hD0 := hD.alloc (.cells #[.int .u8 ((k : Int) + 1)] 5)
      have hP0 := hP.alloc hD (.cells #[.int .u8 ((k : Int) + 1)] 5)
      clear we ws re rv hx hpl hpl2 hr2 hD hP c1
      rcases hcase with ⟨hkn, ad2, b, rfl, hb2, hc2, hkb⟩ | ⟨hkn, hkb⟩
      · cases b with
        | true =>
          go_wp2_with (first
            | (go_at_call 11; refine (Full_any _ _ (chr_size _)).mono ?_; rintro e w3 ⟨rfl, rfl⟩)
            | (go_at_call 12; with_reducible refine (hw1 _ hD0).mono ?_; rintro e x1 ⟨rfl, hD1, hT1⟩; have hP1 := hP0.turn hT1; have c2 := (hD1.base.cell hbl).trans hcW; clear hw1 hD0 hP0 hT1 c1')
            | (go_at_call 16; with_reducible refine (hw2 _ hD1).mono ?_; rintro e x2 ⟨rfl, hD2, hT2⟩; have hP2 := hP1.turn hT2; have c3 := (hD2.base.cell hb2).trans hc2; have c4 := (hD2.base.cell hbl).trans hcW; have c5 := (hP2.blk.cell q).trans (oneRow_at xs keep k q hq4); have c6 := hP2.blk.frozen q; clear hw2 hD1 hP1 hT2 c2))
          go_roundw
          case rel =>
            obtain ⟨hD3, hP3⟩ := hP2.set hD2 q (.string (full (chr ((k : Int) + 1))))
            rw [oneRow_set xs keep k q _ hF hq4 hkb] at hP3
            exact ⟨k + 1, by omega, by omega, by go_num, hD3, hP3⟩
          case measure => simp [intOf]; omega
        | false =>
          go_wp2_with (first
            | (go_at_call 11; refine (Full_any _ _ (chr_size _)).mono ?_; rintro e w3 ⟨rfl, rfl⟩)
            | (go_at_call 12; with_reducible refine (hw1 _ hD0).mono ?_; rintro e x1 ⟨rfl, hD1, hT1⟩; have hP1 := hP0.turn hT1; have c2 := (hD1.base.cell hbl).trans hcW; clear hw1 hD0 hP0 hT1 c1')
            | (go_at_call 16; with_reducible refine (hw2 _ hD1).mono ?_; rintro e x2 ⟨rfl, hD2, hT2⟩; have hP2 := hP1.turn hT2; have c3 := (hD2.base.cell hb2).trans hc2; have c4 := (hD2.base.cell hbl).trans hcW; clear hw2 hD1 hP1 hT2 c2))
          go_roundw
          case rel => exact ⟨k + 1, by omega, by omega, by go_num, hD2, by rw [oneRow_same xs keep k hkb]; exact hP2⟩
          case measure => simp [intOf]; omega
      ·
          go_wp2_with (first
            | (go_at_call 11; refine (Full_any _ _ (chr_size _)).mono ?_; rintro e w3 ⟨rfl, rfl⟩)
            | (go_at_call 12; with_reducible refine (hw1 _ hD0).mono ?_; rintro e x1 ⟨rfl, hD1, hT1⟩; have hP1 := hP0.turn hT1; have c2 := (hD1.base.cell hbl).trans hcW; clear hw1 hD0 hP0 hT1 c1')
            | (go_at_call 16; with_reducible refine (hw2 _ hD1).mono ?_; rintro e x2 ⟨rfl, hD2, hT2⟩; have hP2 := hP1.turn hT2; clear hw2 hD1 hP1 hT2 c2))
          go_roundw
          case rel => exact ⟨k + 1, by omega, by omega, by go_num, hD2, by rw [oneRow_same xs keep k hkb]; exact hP2⟩
          case measure => simp [intOf]; omega
    · have hgd : (k < n ∧ ¬ k < 20) ∨ ¬ k < n := by omega
      clear hlt w1
      have hO := oneD_facts xs k
      have hpl : (oneD xs k).pend.length ≤ 1000000000 := by rw [hO.pend]; simp; omega
      have hc1 : ∀ w, Disks W.heap.size W w [(g, oneD xs k)] → Calls Try.prog 15 #[.pointer (some ⟨g, 0, none⟩), .slice A' n' c', .int .i64 (-1), .int .i64 128] w fun e w' => e = .returned (.tuple #[]) ∧ Disks W.heap.size W w' [(g, (oneD xs k).crash keep (-1) 128)] ∧ Turn w w' [(g, oneD xs k)] [(g, (oneD xs k).crash keep (-1) 128)] := fun w h =>
        TCrash [] [] h A' n' c' keep (-1) 128 hO.good hpl (Bools.arg hr2 h)
      have hpa : ((oneD xs k).crash keep (-1) 128).pend.length ≤ 1000000000 := by simp [Dsk.crash]
      have hread := fun i hi => one_read xs keep k i hi
      generalize (oneD xs k).crash keep (-1) 128 = da at *
      clear hO hpl hr2
      rcases hgd with ⟨h1, h2⟩ | h1
      all_goals
        go_wp2_with (first
          | (go_at_call 15; with_reducible refine (hc1 _ hD).mono ?_; rintro e y1 ⟨rfl, hD1, hT1⟩; have hP1 := hP.turn hT1; clear hc1 hD hT1 hP))
        go_loopw [12] (fun i wr => ∃ j : Nat, j ≤ 4 ∧ i = .int .i64 j ∧ Disks W.heap.size W wr [(g, da)] ∧ Pin wr [(g, da)] W.heap.size v1.heap.size 9 (oneRow xs keep k)) (fun i _ => 4 - (intOf i).toNat)
        case atStart => exact ⟨0, by omega, rfl, hD1, hP1⟩
        case round =>
          clear hD1 hP1
          obtain ⟨j, hj, rfl, hD, hP⟩ := hrel
          by_cases hlt : j < 4
          · obtain ⟨e1, e2⟩ := hread (j : Int) ⟨by omega, by omega⟩
            have r1 : ∀ w, Disks W.heap.size W w [(g, da)] → Calls Try.prog 16 #[.pointer (some ⟨g, 0, none⟩), .int .i64 j] w fun e w' => e = .returned (.tuple #[.string (oneW xs keep k j), .int .i64 0]) ∧ Disks W.heap.size W w' [(g, da)] ∧ Turn w w' [(g, da)] [(g, da)] := fun w h => by
              have := TRead [] [] h (j : Int) hpa
              rw [e1, e2] at this; exact this
            clear e1 e2 hread
            go_wp2_with (first
                | (go_at_call 16; with_reducible refine (r1 _ hD).mono ?_; rintro e y1 ⟨rfl, hD1, hT1⟩; have hP1 := hP.turn hT1; have c5 := (hP1.blk.cell j).trans (oneRow_at xs keep k j hlt); clear r1 hD hP hT1))
            go_roundw
            case rel => exact ⟨j + 1, by omega, by go_num, hD1, hP1⟩
            case measure => simp [intOf]; omega
          · have hb := hD.base
            have hz := hD.size
            go_wp2_with (first
                | (go_at_call 17; refine (fixed_all _).mono ?_; rintro e w7 ⟨rfl, hB⟩))
            go_ret
            exact ⟨rfl, hb.trans (hB.mono hz)⟩
end Go.Proofs.Ytofoneapfokdjaa
