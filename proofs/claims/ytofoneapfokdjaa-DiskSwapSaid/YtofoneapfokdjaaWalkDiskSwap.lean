/- The walk of the law DiskSwap. -/
import Derived.Test.YtofoneapfokdjaaWalkDiskAll
import Derived.Test.YtofoneapfokdjaaSwapPure
namespace Go.Proofs.Ytofoneapfokdjaa
open Go.RowKit
attribute [local go_sem high] run_mx run_mn

theorem i64_and7 (n : Int) : bits .and .i64 n 7 = n % 8 := by
  have h7 : (BitVec.ofInt 64 7).toNat = 2 ^ 3 - 1 := by decide
  have key : (BitVec.ofInt 64 n &&& BitVec.ofInt 64 7).toNat = (n % ((2 ^ 64 : Nat) : Int)).toNat % 2 ^ 3 := by
    rw [BitVec.toNat_and, BitVec.toNat_ofInt, h7, Nat.and_two_pow_sub_one_eq_mod]
  show IntKind.i64.wrap ((BitVec.ofInt 64 n &&& BitVec.ofInt 64 7).toNat : Nat) = n % 8
  rw [key, IntKind.wrap_i64]
  omega
set_option maxRecDepth 100000 in
set_option maxHeartbeats 4000000 in
theorem walkDiskSwap (W : World) (A : Option Addr) (n c : Nat) (ss : List ByteArray) (w1 : IsStrs W A n c ss) (A' : Option Addr) (n' c' : Nat) (keep : List Bool) (w2 : IsBools W A' n' c' keep) (p : Int × Int) (_w3 : GoodPair .i64 p) :
    Calls Try.prog 6 #[.slice A n c, .slice A' n' c', .agg #[.int .i64 p.1, .int .i64 p.2]] W fun e w' => e = .returned (.bool true) ∧ Below W.heap.size W w' := by
  have hle := w1.le
  have hcap := w1.cap
  have hle' := w2.le
  have hcap' := w2.cap
  unfold maxLen at hcap hcap'
  obtain ⟨m, hm1, hm2, hm8, hmn⟩ : ∃ m : Nat, mn (n : Int) 8 = m ∧ min (n : Int) 8 = m ∧ m ≤ 8 ∧ m ≤ n := ⟨min n 8, by rw [mn_def]; omega, by omega, by omega, by omega⟩
  have hr1 := (w1.reads_.alloc (Nat.le_refl _) (.cells #[.int .i64 p.1, .int .i64 p.2] 24)).more (B' := (W.alloc (.cells #[.int .i64 p.1, .int .i64 p.2] 24)).heap.size) (by simp)
  have hr2 := (w2.reads_.alloc (Nat.le_refl _) (.cells #[.int .i64 p.1, .int .i64 p.2] 24)).more (B' := (W.alloc (.cells #[.int .i64 p.1, .int .i64 p.2] 24)).heap.size) (by simp)
  have hsz : ∀ (j : Nat) (s : ByteArray), ss[j]? = some s → s.size ≤ 9223372036854775807 := fun j s h => w1.good s (List.mem_of_getElem? h)
  have hlen2 := w2.len
  clear w1 w2
  go_enter Try.func6, Try.ntmps6
  go_wp2_with (first
    | (go_at_call 9; with_reducible refine (DNew (Disks.start (W.alloc (.cells #[.int .i64 p.1, .int .i64 p.2] 24))) 8 (by omega) (by omega)).mono ?_; rintro e v1 ⟨ga, rfl, h1, _⟩)
    | (go_at_call 9; with_reducible refine (DNew h1 8 (by omega) (by omega)).mono ?_; rintro e v2 ⟨gb, rfl, h2, _⟩; clear h1))
  have hbl := Blk.new W 24 #[.int .i64 p.1, .int .i64 p.2]
  have hW1 : Below W.heap.size W (W.alloc (.cells #[.int .i64 p.1, .int .i64 p.2] 24)) := (Below.refl _ _).alloc (Nat.le_refl _) _
  have hW2 : W.heap.size < (W.alloc (.cells #[.int .i64 p.1, .int .i64 p.2] 24)).heap.size := by simp
  generalize W.alloc (.cells #[.int .i64 p.1, .int .i64 p.2] 24) = W1 at *
  have hK := Room.new h2 4 #[] 0 rfl (by simp [maxLen])
  have h3 := h2.alloc (.cells #[] 4)
  clear h2 hm1 hm2
  go_loopw [12, 13] (fun va i wr => ∃ k : Nat, k ≤ m ∧ i = .int .i64 k ∧ Disks W1.heap.size W1 wr [(ga, upA ss k), (gb, upB ss m k)] ∧ Room wr [(ga, upA ss k), (gb, upB ss m k)] W1.heap.size 4 va k ((turned keep m k).map Value.bool)) (fun _ i _ => m - (intOf i).toNat)
  case atStart => exact ⟨0, by omega, rfl, h3, hK⟩
  case round =>
    clear h3 hK
    obtain ⟨k, hk, rfl, hD, hA⟩ := hrel
    by_cases hlt : k < m
    · obtain ⟨q, hq⟩ : ∃ q : Nat, q = m - 1 - k := ⟨_, rfl⟩
      have hv1 : (m : Int) - 1 - k = (q : Int) := by omega
      have hqn : q < n := by omega
      obtain ⟨ad, u, rfl, hb, hx, hc⟩ := hr1.at_ (k := k) (by omega)
      obtain ⟨ad', u', e', _, hx', hc'⟩ := hr1.at_ (k := q) hqn
      obtain rfl := Option.some.inj e'
      simp only [List.getElem?_map, Option.map_eq_some_iff] at hx hx'
      obtain ⟨s, hs, rfl⟩ := hx
      obtain ⟨s', hs', rfl⟩ := hx'
      have z1 := hsz _ _ hs
      have z2 := hsz _ _ hs'
      have c1 := (hD.base.cell (p := ad.add k) (by rw [block_of_add]; exact hb)).trans hc
      rw [hq] at hs'
      obtain ⟨we, ws⟩ := upA_write ss k (by omega) hs
      obtain ⟨we', ws'⟩ := upB_write ss m k hm8 hlt hs'
      rw [← hq] at we' ws'
      have f1 := (upA_facts ss k (by omega)).len
      have f2 := (upB_facts ss m k hm8 (by omega)).len
      have hw1 : ∀ w, Disks W1.heap.size W1 w [(ga, upA ss k), (gb, upB ss m k)] → Calls Try.prog 12 #[.pointer (some ⟨ga, 0, none⟩), .int .i64 k, .string (full s)] w fun e w' => e = .returned (.int .i64 0) ∧ Disks W1.heap.size W1 w' [(ga, upA ss (k + 1)), (gb, upB ss m k)] ∧ Turn w w' [(ga, upA ss k), (gb, upB ss m k)] [(ga, upA ss (k + 1)), (gb, upB ss m k)] := fun w h => by
        have := TWrite [] [(gb, upB ss m k)] h k (full s) (by omega)
        rw [we, ws] at this; exact this
      have hw2 : ∀ w, Disks W1.heap.size W1 w [(ga, upA ss (k + 1)), (gb, upB ss m k)] → Calls Try.prog 12 #[.pointer (some ⟨gb, 0, none⟩), .int .i64 q, .string (full s')] w fun e w' => e = .returned (.int .i64 0) ∧ Disks W1.heap.size W1 w' [(ga, upA ss (k + 1)), (gb, upB ss m (k + 1))] ∧ Turn w w' [(ga, upA ss (k + 1)), (gb, upB ss m k)] [(ga, upA ss (k + 1)), (gb, upB ss m (k + 1))] := fun w h => by
        have := TWrite [(ga, upA ss (k + 1))] [] h q (full s') (by omega)
        rw [we', ws'] at this; exact this
      have ek := Lib.hid (turned_succ keep m k)
      rw [← hq] at ek
      have hm1 : k + 1 ≤ maxLen := by unfold maxLen; omega
      have hm2 : (k + 1) * 1 ≤ 140737488355328 := by omega
      obtain ⟨i0, hi, hz0, hz1, hz2⟩ := info_parts infoBool
      have hcase : (q < n' ∧ ∃ (ad2 : Addr) (b : Bool), A' = some ad2 ∧ (ad2.add q).block < W1.heap.size ∧ W1.cell? (ad2.add q) = some (.bool b) ∧ keep[q]?.getD false = b) ∨ (¬ q < n' ∧ keep[q]?.getD false = false) := by
        by_cases h : q < n'
        · obtain ⟨ad2, u2, rfl, hb2, hx2, hc2⟩ := hr2.at_ h
          simp only [List.getElem?_map, Option.map_eq_some_iff] at hx2
          obtain ⟨b, hb', rfl⟩ := hx2
          exact .inl ⟨h, ad2, b, rfl, by rw [block_of_add]; exact hb2, hc2, by rw [hb']; rfl⟩
        · exact .inr ⟨h, by rw [List.getElem?_eq_none (by omega)]; rfl⟩
      clear we ws we' ws' hs hs' hq hr1 hr2 hsz f1 f2 hbl hW1
      have hcq : (ad.add q).block < W1.heap.size := by rw [block_of_add]; exact hb
      rcases hcase with ⟨hqn', ad2, b, rfl, hb2, hc2, hkb⟩ | ⟨hqn', hkb⟩
      · rw [hkb] at ek
        go_wp2_with (first
          | (go_at_call 11; with_reducible refine (Full_any s _ z1).mono ?_; rintro e w3 ⟨rfl, rfl⟩; clear z1)
          | (go_at_call 11; with_reducible refine (Full_any s' _ z2).mono ?_; rintro e w3 ⟨rfl, rfl⟩; clear z2)
          | (go_at_call 12; with_reducible refine (hw1 _ hD).mono ?_; rintro e x1 ⟨rfl, hD1, hT1⟩; have hA1 := hA.turn hT1; have c2 := (hD1.base.cell hcq).trans hc'; clear hw1 hD hT1 hA c1)
          | (go_at_call 12; with_reducible refine (hw2 _ hD1).mono ?_; rintro e x2 ⟨rfl, hD2, hT2⟩; have hA2 := hA1.turn hT2; have c3 := (hD2.base.cell hb2).trans hc2; have hz3 := hD2.size; clear hw2 hD1 hT2 hA1 c2)
          | (at_builtin; refine wpList_app1 _ rfl _ _ 39 rfl W1.heap.size 4 Try.underlying39 hi hz0 hz1 hz2 rfl hA2.row rfl rfl rfl hm1 hm2 hz3 ?_; intro va' x4 hoa hga hna; obtain ⟨hD4, hA4⟩ := hA2.grown hD2 hoa hga (hna.imp id fun h => ⟨_, by simp, h⟩); clear hD2 hA2 hoa hga hna hz3))
        go_roundw
        case rel => exact ⟨k + 1, by omega, by go_num, hD4, by rw [ek.out]; exact hA4⟩
        case measure => simp [intOf]; omega
      · rw [hkb] at ek
        go_wp2_with (first
          | (go_at_call 11; with_reducible refine (Full_any s _ z1).mono ?_; rintro e w3 ⟨rfl, rfl⟩; clear z1)
          | (go_at_call 11; with_reducible refine (Full_any s' _ z2).mono ?_; rintro e w3 ⟨rfl, rfl⟩; clear z2)
          | (go_at_call 12; with_reducible refine (hw1 _ hD).mono ?_; rintro e x1 ⟨rfl, hD1, hT1⟩; have hA1 := hA.turn hT1; have c2 := (hD1.base.cell hcq).trans hc'; clear hw1 hD hT1 hA c1)
          | (go_at_call 12; with_reducible refine (hw2 _ hD1).mono ?_; rintro e x2 ⟨rfl, hD2, hT2⟩; have hA2 := hA1.turn hT2; have hz3 := hD2.size; clear hw2 hD1 hT2 hA1 c2)
          | (at_builtin; refine wpList_app1 _ rfl _ _ 39 rfl W1.heap.size 4 Try.underlying39 hi hz0 hz1 hz2 rfl hA2.row rfl rfl rfl hm1 hm2 hz3 ?_; intro va' x4 hoa hga hna; obtain ⟨hD4, hA4⟩ := hA2.grown hD2 hoa hga (hna.imp id fun h => ⟨_, by simp, h⟩); clear hD2 hA2 hoa hga hna hz3))
        go_roundw
        case rel => exact ⟨k + 1, by omega, by go_num, hD4, by rw [ek.out]; exact hA4⟩
        case measure => simp [intOf]; omega
    · obtain rfl : k = m := by omega
      have t0 := (hD.base.cell (p := ⟨W.heap.size, 0, none⟩) hW2).trans (hbl.cell 0)
      have t1 := (hD.base.cell (p := ⟨W.heap.size, 1, none⟩) hW2).trans (hbl.cell 1)
      obtain ⟨Aa, ca, rfl, _⟩ := hA.slice
      have hUa := upA_facts ss k hm8
      have hUb := upB_facts ss k k hm8 (Nat.le_refl _)
      have hand := i64_and7 p.1
      have htb : 0 ≤ p.1 % 8 ∧ p.1 % 8 < 8 := by omega
      have hc1 : ∀ w, Disks W1.heap.size W1 w [(ga, upA ss k), (gb, upB ss k k)] → Calls Try.prog 15 #[.pointer (some ⟨ga, 0, none⟩), .slice A' n' c', .int .i64 (p.1 % 8), .int .i64 p.2] w fun e w' => e = .returned (.tuple #[]) ∧ Disks W1.heap.size W1 w' [(ga, (upA ss k).crash keep (p.1 % 8) p.2), (gb, upB ss k k)] ∧ Turn w w' [(ga, upA ss k), (gb, upB ss k k)] [(ga, (upA ss k).crash keep (p.1 % 8) p.2), (gb, upB ss k k)] := fun w h =>
        TCrash [] [(gb, upB ss k k)] h A' n' c' keep (p.1 % 8) p.2 hUa.good (by rw [hUa.len]; omega) (Bools.arg hr2 h)
      have hc2 : ∀ w, Disks W1.heap.size W1 w [(ga, (upA ss k).crash keep (p.1 % 8) p.2), (gb, upB ss k k)] → Room w [(ga, (upA ss k).crash keep (p.1 % 8) p.2), (gb, upB ss k k)] W1.heap.size 4 (.slice Aa k ca) k ((turned keep k k).map Value.bool) → Calls Try.prog 15 #[.pointer (some ⟨gb, 0, none⟩), .slice Aa k ca, .int .i64 ((k : Int) - 1 - p.1 % 8), .int .i64 p.2] w fun e w' => e = .returned (.tuple #[]) ∧ Disks W1.heap.size W1 w' [(ga, (upA ss k).crash keep (p.1 % 8) p.2), (gb, (upB ss k k).crash (turned keep k k) ((k : Int) - 1 - p.1 % 8) p.2)] := fun w h hr =>
        (TCrash [(ga, (upA ss k).crash keep (p.1 % 8) p.2)] [] h Aa k ca (turned keep k k) ((k : Int) - 1 - p.1 % 8) p.2 hUb.good (by rw [hUb.len]; omega) hr.bools).mono fun _ _ h => ⟨h.1, h.2.1⟩
      have hread := fun i hi => swap_read ss keep k hm8 (p.1 % 8) p.2 i hi
      clear hUa hUb hr1 hr2 hsz
      have hpa : ((upA ss k).crash keep (p.1 % 8) p.2).pend.length ≤ 1000000000 := by simp [Dsk.crash]
      have hpb : ((upB ss k k).crash (turned keep k k) ((k : Int) - 1 - p.1 % 8) p.2).pend.length ≤ 1000000000 := by simp [Dsk.crash]
      generalize (upA ss k).crash keep (p.1 % 8) p.2 = da at *
      generalize (upB ss k k).crash (turned keep k k) ((k : Int) - 1 - p.1 % 8) p.2 = db at *
      generalize p.1 % 8 = torn at *
      go_wp2_with (first
          | (go_at_call 15; with_reducible refine (hc1 _ hD).mono ?_; rintro e y1 ⟨rfl, hD1, hT1⟩; have hA1 := hA.turn hT1; have t1' := (hD1.base.cell (p := ⟨W.heap.size, 1, none⟩) hW2).trans (hbl.cell 1); clear hc1 hD hT1 hA t0 t1)
          | (go_at_call 15; with_reducible refine (hc2 _ hD1 hA1).mono ?_; rintro e y2 ⟨rfl, hD2⟩; clear hc2 hD1 hA1 t1'))
      go_loopw [16] (fun i wr => ∃ j : Nat, j ≤ 8 ∧ i = .int .i64 j ∧ Disks W1.heap.size W1 wr [(ga, da), (gb, db)]) (fun i _ => 8 - (intOf i).toNat)
      case atStart => exact ⟨0, by omega, rfl, hD2⟩
      case round =>
        clear hD2
        obtain ⟨j, hj, rfl, hD⟩ := hrel
        by_cases hlt : j < 8
        · obtain ⟨⟨e1, e2⟩, e3⟩ := hread (j : Int) ⟨by omega, by omega⟩
          have r1 := fun w (h : Disks W1.heap.size W1 w [(ga, da), (gb, db)]) => DRead [] [(gb, db)] h (j : Int) hpa
          have r2 := fun w (h : Disks W1.heap.size W1 w [(ga, da), (gb, db)]) => DRead [(ga, da)] [] h (j : Int) hpb
          rw [e1] at r1
          rw [e2, e3] at r2
          clear e1 e2 e3 hread
          generalize da.readV (j : Int) = s at *
          go_wp2_with (first
              | (go_at_call 16; with_reducible refine (r1 _ hD).mono ?_; rintro e y1 ⟨rfl, hD1⟩; clear r1 hD)
              | (go_at_call 16; with_reducible refine (r2 _ hD1).mono ?_; rintro e y2 ⟨rfl, hD2⟩; clear r2 hD1))
          go_roundw
          case rel => exact ⟨j + 1, by omega, by go_num, hD2⟩
          case measure => simp [intOf]; omega
        · have hb := hD.base
          have hz := hD.size
          go_wp2_with (first
              | (go_at_call 17; refine (fixed_all _).mono ?_; rintro e w7 ⟨rfl, hB⟩))
          go_ret
          exact ⟨rfl, hW1.trans ((hb.trans (hB.mono hz)).mono (by omega))⟩
end Go.Proofs.Ytofoneapfokdjaa
