/- The walk of the law DiskAll. -/
import Derived.Test.YtofoneapfokdjaaWalkDiskLimit
import Derived.Test.YtofoneapfokdjaaRooms
import Derived.Test.YtofoneapfokdjaaDiskPure
import Derived.Deep.RegionHeld3
namespace Go.Proofs.Ytofoneapfokdjaa
open Go.RowKit
attribute [local go_sem high] run_mx run_mn

/-- The string of one byte. -/
def chr (x : Int) : ByteArray := ⟨#[UInt8.ofNat x.toNat]⟩
theorem chr_size (x : Int) : (chr x).size ≤ 9223372036854775807 := by show (1 : Nat) ≤ _; omega
theorem conv_chr (w : World) (x : Int) (hx : 0 ≤ x ∧ x ≤ 255) : (convert 23 9 (.slice (some ⟨w.heap.size, 0, none⟩) 1 1)).run Try.prog (w.alloc (.cells #[.int .u8 x] 5)) = .ok (.string (chr x)) (w.alloc (.cells #[.int .u8 x] 5)) := by
  have hb : ByteBlk (w.alloc (.cells #[.int .u8 x] 5)) w.heap.size [UInt8.ofNat x.toNat] := by
    have h := Blk.new w 5 #[.int .u8 x]
    have hv : ((UInt8.ofNat x.toNat).toNat : Int) = x := by
      rw [UInt8.toNat_ofNat', Nat.mod_eq_of_lt (by omega)]; omega
    refine ⟨fun j hj => ?_, fun j _ => h.frozen j⟩
    obtain rfl : j = 0 := by simp at hj; exact hj
    rw [h.cell]
    show some (Value.int .u8 x) = some (.int .u8 ((UInt8.ofNat x.toNat).toNat : Int))
    rw [hv]
  exact run_toString _ Try.underlying23 Try.underlying5 Try.underlying9 hb rfl
/-- The disk behind k writes. -/
def allD (ps : List (Int × Int)) : Nat → Dsk
  | 0 => newDsk 6
  | k + 1 => (allD ps k).writeS ((ps[k]?.getD (0, 0)).1 % 6) (full (chr (ps[k]?.getD (0, 0)).2))
theorem allD_facts (ps : List (Int × Int)) (k : Nat) : (allD ps k).n = 6 ∧ (allD ps k).lim = false ∧ (allD ps k).pend.length = k ∧ (allD ps k).Good := by
  induction k with
  | zero => exact ⟨rfl, rfl, rfl, Dsk.Good.new 6⟩
  | succ k ih =>
    have he : (allD ps k).writeE ((ps[k]?.getD (0, 0)).1 % 6) (full (chr (ps[k]?.getD (0, 0)).2)) = 0 := by
      unfold Dsk.writeE Dsk.dead
      rw [if_pos (by rw [ih.1]; omega), if_pos (full_size _), ih.2.1]; rfl
    refine ⟨?_, ?_, ?_, ih.2.2.2.writeS _ _⟩
    all_goals
      unfold allD Dsk.writeS
      rw [if_pos he]
    · exact ih.1
    · exact ih.2.1
    · show ((allD ps k).pend ++ [_]).length = k + 1
      rw [List.length_append, ih.2.2.1]; rfl
theorem allD_write (ps : List (Int × Int)) (k : Nat) {p : Int × Int} (hp : ps[k]? = some p) : (allD ps k).writeE (p.1 % 6) (full (chr p.2)) = 0 ∧ (allD ps k).writeS (p.1 % 6) (full (chr p.2)) = allD ps (k + 1) := by
  refine ⟨?_, by show _ = (allD ps k).writeS _ _; rw [hp]; rfl⟩
  have ih := allD_facts ps k
  unfold Dsk.writeE Dsk.dead
  rw [if_pos (by rw [ih.1]; omega), if_pos (full_size _), ih.2.1]; rfl
def keeps (k : Nat) : List Bool := List.replicate k true
theorem keeps_succ (k : Nat) : (keeps (k + 1)).map Value.bool = (keeps k).map Value.bool ++ [Value.bool true] := by
  unfold keeps; rw [List.replicate_succ', List.map_append]; rfl
def mosts (k : Nat) : List Bool := (List.range k).map fun i => decide (0 < i)

theorem mosts_succ (k : Nat) : (mosts (k + 1)).map Value.bool = (mosts k).map Value.bool ++ [Value.bool (decide (0 < k))] := by
  unfold mosts; rw [List.range_succ, List.map_append, List.map_append]; rfl
/-- Two rows stay in unlike blocks where one of them grows. -/
theorem hne_grow {w : World} {l : List (Nat × Dsk)} {B m : Nat} {t : TypeId} {u v v' : Value} {ys : List Value} {q0 : Nat} (hne : ∀ q, v.ownBlock = some q → u.ownBlock ≠ some q) (hu : Room w l B t u m ys) (hn : v'.ownBlock = v.ownBlock ∨ v'.ownBlock = some (w.heap.size + q0)) : ∀ q, v'.ownBlock = some q → u.ownBlock ≠ some q := by
  intro q hq hq'
  rcases hn with e | e
  · exact hne q (e ▸ hq) hq'
  · rw [e] at hq; obtain rfl := Option.some.inj hq
    have := (hu.row.lt _ hq').2
    omega
/-- What is read in the end. -/
theorem all_read (ps : List (Int × Int)) (k : Nat) (i : Int) (hi : 0 ≤ i ∧ i < 6) :
    ((allD ps k).flushS.readE i = 0 ∧ ((allD ps k).crash (keeps k) 0 5).readE i = 0 ∧ ((allD ps k).crash (mosts k) 0 128).readE i = 0) ∧
    ((allD ps k).crash (keeps k) 0 5).readV i = (allD ps k).flushS.readV i ∧ ((allD ps k).crash (mosts k) 0 128).readV i = (allD ps k).flushS.readV i := by
  obtain ⟨f1, f2, f3, f4⟩ := allD_facts ps k
  have hd : (allD ps k).dead = false := by unfold Dsk.dead; rw [f2]; rfl
  have hi' : 0 ≤ i ∧ i < (allD ps k).n := by rw [f1]; exact hi
  obtain ⟨g1, g2, _⟩ := flush_readV hd hi'
  have ht : (allD ps k).pend.take (allD ps k).pend.length = (allD ps k).pend := List.take_length
  have hk : ∀ j, j < (allD ps k).pend.length → (keeps k)[j]? = some true := fun j hj => by
    rw [f3] at hj
    unfold keeps
    rw [List.getElem?_replicate, if_pos hj]
  have hm : ∀ j, j < (allD ps k).pend.length → (mosts k)[j]? = some true ∨ (j : Int) = 0 := fun j hj => by
    rw [f3] at hj
    unfold mosts
    rw [List.getElem?_map, List.getElem?_range hj]
    by_cases h0 : 0 < j
    · left; simp [h0]
    · right; omega
  have c1 := crash_readV (keeps k) 0 5 hi'
  have c2 := crash_readV (mosts k) 0 128 hi'
  refine ⟨⟨g2, c1.2, c2.2⟩, ?_, ?_⟩
  · rw [c1.1, g1, crash_flush _ f4 (keeps k) 0 5 (.inr hk) (fun j hj => .inl (hk j hj)) i _ (Nat.le_refl _), ht]
  · rw [c2.1, g1, crash_flush _ f4 (mosts k) 0 128 (.inl (by omega)) hm i _ (Nat.le_refl _), ht]
theorem infoBool : (Try.prog.info? 4).map (fun i => (i.zero, i.size, i.bytes)) = some (some (.bool false), 1, 1) := by kernel_rfl

set_option maxRecDepth 100000 in
set_option maxHeartbeats 4000000 in
theorem walkDiskAll (W : World) (A : Option Addr) (n c : Nat) (ps : List (Int × Int)) (w1 : IsPairs .u8 2 W A n c ps) :
    Calls Try.prog 5 #[.slice A n c] W fun e w' => e = .returned (.bool true) ∧ Below W.heap.size W w' := by
  have h0 := Disks.start W
  have hle := w1.le
  have hcap := w1.cap
  unfold maxLen at hcap
  go_enter Try.func5, Try.ntmps5
  go_wp2_with (first
    | (go_at_call 9; with_reducible refine (DNew h0 6 (by omega) (by omega)).mono ?_; rintro e v1 ⟨ga, rfl, h1, _⟩; clear h0)
    | (go_at_call 9; with_reducible refine (DNew h1 6 (by omega) (by omega)).mono ?_; rintro e v2 ⟨gb, rfl, h2, _⟩; clear h1)
    | (go_at_call 9; with_reducible refine (DNew h2 6 (by omega) (by omega)).mono ?_; rintro e v3 ⟨gc, rfl, h3, _⟩; clear h2))
  have hK := Room.new h3 4 #[] 0 rfl (by simp [maxLen])
  have h4 := h3.alloc (.cells #[] 4)
  have hM := Room.new h4 4 #[] 0 rfl (by simp [maxLen])
  rw [show (v3.alloc (.cells #[] 4)).heap.size = v3.heap.size + 1 by simp] at hM
  have hK2 := hK.alloc h4 (.cells #[] 4)
  have h5 := h4.alloc (.cells #[] 4)
  clear hK h3 h4
  go_loopw [9, 10, 11] (fun va vb i wr => ∃ k : Nat, k ≤ n ∧ k ≤ 20 ∧ i = .int .i64 k ∧ Disks W.heap.size W wr [(ga, allD ps k), (gb, allD ps k), (gc, allD ps k)] ∧ Room wr [(ga, allD ps k), (gb, allD ps k), (gc, allD ps k)] W.heap.size 4 va k ((keeps k).map Value.bool) ∧ Room wr [(ga, allD ps k), (gb, allD ps k), (gc, allD ps k)] W.heap.size 4 vb k ((mosts k).map Value.bool) ∧ ∀ q, va.ownBlock = some q → vb.ownBlock ≠ some q) (fun _ _ i _ => n - (intOf i).toNat)
  case atStart => exact ⟨0, by omega, by omega, rfl, h5, hK2, hM, by simp [Value.ownBlock]⟩
  case round =>
    clear h5 hK2 hM
    obtain ⟨k, hk, hk20, rfl, hD, hA, hB, hne⟩ := hrel
    by_cases hlt : k < n ∧ k < 20
    · obtain ⟨hlt, hlt2⟩ := hlt
      obtain ⟨ad, p, rfl, hp, hg, hb, hc⟩ := w1.at_ (by omega) (fun _ => rfl) hlt
      have c0 : wr.cell? (ad.add (k * 2)) = some (.int .u8 p.1) := (hD.base.cell (by rw [block_of_add]; exact hb)).trans (hc 0 (by omega))
      have c1 : wr.cell? ⟨(ad.add (k * 2)).block, (ad.add (k * 2)).off + 1, none⟩ = some (.int .u8 p.2) := cell_off (by rw [add_of_add]; exact (hD.base.cell (by rw [block_of_add]; exact hb)).trans (hc 1 (by omega)))
      have hcv := conv_chr wr p.2 (bounds_u8 hg.2)
      have c0' : (wr.alloc (.cells #[.int .u8 p.2] 5)).cell? (ad.add (k * 2)) = some (.int .u8 p.1) := by rw [World.cell?_alloc_lt _ _ _ (lt_of_cell c0)]; exact c0
      clear c0
      have hval : (wrap64 p.1).tmod 6 = p.1 % 6 := by
        have := bounds_u8 hg.1
        rw [show wrap64 p.1 = p.1 from by unfold wrap64; omega, Int.tmod_eq_emod_of_nonneg this.1]
      obtain ⟨we, ws⟩ := allD_write ps k hp
      have hpd : (allD ps k).pend.length ≤ 1000000000 := by rw [(allD_facts ps k).2.2.1]; omega
      have hw1 : ∀ w, Disks W.heap.size W w [(ga, allD ps k), (gb, allD ps k), (gc, allD ps k)] → Calls Try.prog 12 #[.pointer (some ⟨ga, 0, none⟩), .int .i64 (p.1 % 6), .string (full (chr p.2))] w fun e w' => e = .returned (.int .i64 0) ∧ Disks W.heap.size W w' [(ga, allD ps (k + 1)), (gb, allD ps k), (gc, allD ps k)] ∧ Turn w w' [(ga, allD ps k), (gb, allD ps k), (gc, allD ps k)] [(ga, allD ps (k + 1)), (gb, allD ps k), (gc, allD ps k)] := fun w h => by
        have := TWrite [] [(gb, allD ps k), (gc, allD ps k)] h (p.1 % 6) (full (chr p.2)) hpd
        rw [we, ws] at this; exact this
      have hw2 : ∀ w, Disks W.heap.size W w [(ga, allD ps (k + 1)), (gb, allD ps k), (gc, allD ps k)] → Calls Try.prog 12 #[.pointer (some ⟨gb, 0, none⟩), .int .i64 (p.1 % 6), .string (full (chr p.2))] w fun e w' => e = .returned (.int .i64 0) ∧ Disks W.heap.size W w' [(ga, allD ps (k + 1)), (gb, allD ps (k + 1)), (gc, allD ps k)] ∧ Turn w w' [(ga, allD ps (k + 1)), (gb, allD ps k), (gc, allD ps k)] [(ga, allD ps (k + 1)), (gb, allD ps (k + 1)), (gc, allD ps k)] := fun w h => by
        have := TWrite [(ga, allD ps (k + 1))] [(gc, allD ps k)] h (p.1 % 6) (full (chr p.2)) hpd
        rw [we, ws] at this; exact this
      have hw3 : ∀ w, Disks W.heap.size W w [(ga, allD ps (k + 1)), (gb, allD ps (k + 1)), (gc, allD ps k)] → Calls Try.prog 12 #[.pointer (some ⟨gc, 0, none⟩), .int .i64 (p.1 % 6), .string (full (chr p.2))] w fun e w' => e = .returned (.int .i64 0) ∧ Disks W.heap.size W w' [(ga, allD ps (k + 1)), (gb, allD ps (k + 1)), (gc, allD ps (k + 1))] ∧ Turn w w' [(ga, allD ps (k + 1)), (gb, allD ps (k + 1)), (gc, allD ps k)] [(ga, allD ps (k + 1)), (gb, allD ps (k + 1)), (gc, allD ps (k + 1))] := fun w h => by
        have := TWrite [(ga, allD ps (k + 1)), (gb, allD ps (k + 1))] [] h (p.1 % 6) (full (chr p.2)) hpd
        rw [we, ws] at this; exact this
      have hD0 := hD.alloc (.cells #[.int .u8 p.2] 5)
      have hA0 := hA.alloc hD (.cells #[.int .u8 p.2] 5)
      have hB0 := hB.alloc hD (.cells #[.int .u8 p.2] 5)
      have ek := Lib.hid (keeps_succ k)
      have em := Lib.hid (mosts_succ k)
      have hm1 : k + 1 ≤ maxLen := by unfold maxLen; omega
      have hm2 : (k + 1) * 1 ≤ 140737488355328 := by omega
      clear we ws hD hA hB hp hg hc hb w1
      obtain ⟨i0, hi, hz0, hz1, hz2⟩ := info_parts infoBool
      go_wp2_with (first
        | (go_at_call 11; refine (Full_any _ _ (chr_size _)).mono ?_; rintro e w3 ⟨rfl, rfl⟩)
        | (go_at_call 12; with_reducible refine (hw1 _ hD0).mono ?_; rintro e x1 ⟨rfl, hD1, hT1⟩; have hA1 := hA0.turn hT1; have hB1 := hB0.turn hT1; clear hw1 hD0 hT1 hA0 hB0)
        | (go_at_call 12; with_reducible refine (hw2 _ hD1).mono ?_; rintro e x2 ⟨rfl, hD2, hT2⟩; have hA2 := hA1.turn hT2; have hB2 := hB1.turn hT2; clear hw2 hD1 hT2 hA1 hB1)
        | (go_at_call 12; with_reducible refine (hw3 _ hD2).mono ?_; rintro e x3 ⟨rfl, hD3, hT3⟩; have hA3 := hA2.turn hT3; have hB3 := hB2.turn hT3; have hz3 := hD3.size; clear hw3 hD2 hT3 hA2 hB2)
        | (at_builtin; refine wpList_app1 _ rfl _ _ 39 rfl W.heap.size 4 Try.underlying39 hi hz0 hz1 hz2 rfl hA3.row rfl rfl rfl hm1 hm2 hz3 ?_; intro va' x4 hoa hga hna; obtain ⟨hD4, hA4⟩ := hA3.grown hD3 hoa hga (hna.imp id fun h => ⟨_, by simp, h⟩); have hB4 := hB3.other hA3 hD3 hga (fun q hq hq' => hne q hq' hq); have hne4 := hne_grow hne hB3 hna; have hz4 := hD4.size; clear hD3 hA3 hB3 hoa hga hna hne hz3)
        | (at_builtin; refine wpList_app1 _ rfl _ _ 39 rfl W.heap.size 4 Try.underlying39 hi hz0 hz1 hz2 rfl hB4.row rfl rfl rfl hm1 hm2 hz4 ?_; intro vb' x5 hob hgb hnb; obtain ⟨hD5, hB5⟩ := hB4.grown hD4 hob hgb (hnb.imp id fun h => ⟨_, by simp, h⟩); have hA5 := hA4.other hB4 hD4 hgb (fun q hq hq' => hne4 q hq hq'); have hne5 := hne_grow (fun q h h' => hne4 q h' h) hA4 hnb; clear hD4 hA4 hB4 hob hgb hnb hne4 hz4)
        )
      go_roundw
      case rel => exact ⟨k + 1, by omega, by omega, by go_num, hD5, by rw [ek.out]; exact hA5, by rw [em.out]; exact hB5, fun q h h' => hne5 q h' h⟩
      case measure => simp [intOf]; omega
    · have hgd : (k < n ∧ ¬ k < 20) ∨ ¬ k < n := by omega
      clear hlt w1
      obtain ⟨Aa, ca, rfl, _⟩ := hA.slice
      obtain ⟨Ab, cb, rfl, _⟩ := hB.slice
      have hpd : (allD ps k).pend.length ≤ 1000000000 := by rw [(allD_facts ps k).2.2.1]; omega
      have hgo := (allD_facts ps k).2.2.2
      have hdd : (allD ps k).dead = false := by unfold Dsk.dead; rw [(allD_facts ps k).2.1]; rfl
      have hfe : (allD ps k).flushE = 0 := by unfold Dsk.flushE; rw [hdd]; rfl
      have hfp : (allD ps k).flushS.pend = [] := by unfold Dsk.flushS; rw [hdd]; rfl
      have hf1 : ∀ w, Disks W.heap.size W w [(ga, allD ps k), (gb, allD ps k), (gc, allD ps k)] → Calls Try.prog 13 #[.pointer (some ⟨ga, 0, none⟩)] w fun e w' => e = .returned (.int .i64 0) ∧ Disks W.heap.size W w' [(ga, (allD ps k).flushS), (gb, allD ps k), (gc, allD ps k)] ∧ Turn w w' [(ga, allD ps k), (gb, allD ps k), (gc, allD ps k)] [(ga, (allD ps k).flushS), (gb, allD ps k), (gc, allD ps k)] := fun w h => by
        have := TFlush [] [(gb, allD ps k), (gc, allD ps k)] h hpd
        rw [hfe] at this; exact this
      have hc1 : ∀ w, Disks W.heap.size W w [(ga, (allD ps k).flushS), (gb, allD ps k), (gc, allD ps k)] → Room w [(ga, (allD ps k).flushS), (gb, allD ps k), (gc, allD ps k)] W.heap.size 4 (.slice Aa k ca) k ((keeps k).map Value.bool) → Calls Try.prog 15 #[.pointer (some ⟨gb, 0, none⟩), .slice Aa k ca, .int .i64 0, .int .i64 5] w fun e w' => e = .returned (.tuple #[]) ∧ Disks W.heap.size W w' [(ga, (allD ps k).flushS), (gb, (allD ps k).crash (keeps k) 0 5), (gc, allD ps k)] ∧ Turn w w' [(ga, (allD ps k).flushS), (gb, allD ps k), (gc, allD ps k)] [(ga, (allD ps k).flushS), (gb, (allD ps k).crash (keeps k) 0 5), (gc, allD ps k)] := fun w h hr =>
        TCrash [(ga, (allD ps k).flushS)] [(gc, allD ps k)] h Aa k ca (keeps k) 0 5 hgo hpd hr.bools
      have hc2 : ∀ w, Disks W.heap.size W w [(ga, (allD ps k).flushS), (gb, (allD ps k).crash (keeps k) 0 5), (gc, allD ps k)] → Room w [(ga, (allD ps k).flushS), (gb, (allD ps k).crash (keeps k) 0 5), (gc, allD ps k)] W.heap.size 4 (.slice Ab k cb) k ((mosts k).map Value.bool) → Calls Try.prog 15 #[.pointer (some ⟨gc, 0, none⟩), .slice Ab k cb, .int .i64 0, .int .i64 128] w fun e w' => e = .returned (.tuple #[]) ∧ Disks W.heap.size W w' [(ga, (allD ps k).flushS), (gb, (allD ps k).crash (keeps k) 0 5), (gc, (allD ps k).crash (mosts k) 0 128)] := fun w h hr =>
        (TCrash [(ga, (allD ps k).flushS), (gb, (allD ps k).crash (keeps k) 0 5)] [] h Ab k cb (mosts k) 0 128 hgo hpd hr.bools).mono fun _ _ h => ⟨h.1, h.2.1⟩
      clear hfe hdd hgo
      rcases hgd with ⟨h1, h2⟩ | h1
      all_goals
        go_wp2_with (first
          | (go_at_call 13; with_reducible refine (hf1 _ hD).mono ?_; rintro e y1 ⟨rfl, hD1, hT1⟩; have hA1 := hA.turn hT1; have hB1 := hB.turn hT1; clear hf1 hD hT1 hA hB)
          | (go_at_call 15; with_reducible refine (hc1 _ hD1 hA1).mono ?_; rintro e y2 ⟨rfl, hD2, hT2⟩; have hB2 := hB1.turn hT2; clear hc1 hD1 hT2 hA1 hB1)
          | (go_at_call 15; with_reducible refine (hc2 _ hD2 hB2).mono ?_; rintro e y3 ⟨rfl, hD3⟩; clear hc2 hD2 hB2))
        go_loopw [14] (fun i wr => ∃ j : Nat, j ≤ 6 ∧ i = .int .i64 j ∧ Disks W.heap.size W wr [(ga, (allD ps k).flushS), (gb, (allD ps k).crash (keeps k) 0 5), (gc, (allD ps k).crash (mosts k) 0 128)]) (fun i _ => 6 - (intOf i).toNat)
        case atStart => exact ⟨0, by omega, rfl, hD3⟩
        case round =>
          clear hD3
          obtain ⟨j, hj, rfl, hD⟩ := hrel
          by_cases hlt : j < 6
          · obtain ⟨⟨e1, e2, e3⟩, e4, e5⟩ := all_read ps k (j : Int) ⟨by omega, by omega⟩
            have hp2 : (allD ps k).flushS.pend.length ≤ 1000000000 := by rw [hfp]; simp
            have r1 := fun w (h : Disks W.heap.size W w [(ga, (allD ps k).flushS), (gb, (allD ps k).crash (keeps k) 0 5), (gc, (allD ps k).crash (mosts k) 0 128)]) => DRead [] [(gb, (allD ps k).crash (keeps k) 0 5), (gc, (allD ps k).crash (mosts k) 0 128)] h (j : Int) hp2
            have r2 := fun w (h : Disks W.heap.size W w [(ga, (allD ps k).flushS), (gb, (allD ps k).crash (keeps k) 0 5), (gc, (allD ps k).crash (mosts k) 0 128)]) => DRead [(ga, (allD ps k).flushS)] [(gc, (allD ps k).crash (mosts k) 0 128)] h (j : Int) (by simp [Dsk.crash])
            have r3 := fun w (h : Disks W.heap.size W w [(ga, (allD ps k).flushS), (gb, (allD ps k).crash (keeps k) 0 5), (gc, (allD ps k).crash (mosts k) 0 128)]) => DRead [(ga, (allD ps k).flushS), (gb, (allD ps k).crash (keeps k) 0 5)] [] h (j : Int) (by simp [Dsk.crash])
            rw [e1] at r1
            rw [e2, e4] at r2
            rw [e3, e5] at r3
            clear e1 e2 e3 e4 e5 hp2
            generalize (allD ps k).flushS.readV (j : Int) = s at *
            go_wp2_with (first
              | (go_at_call 16; with_reducible refine (r1 _ hD).mono ?_; rintro e y1 ⟨rfl, hD1⟩; clear r1 hD)
              | (go_at_call 16; with_reducible refine (r2 _ hD1).mono ?_; rintro e y2 ⟨rfl, hD2⟩; clear r2 hD1)
              | (go_at_call 16; with_reducible refine (r3 _ hD2).mono ?_; rintro e y3 ⟨rfl, hD3⟩; clear r3 hD2))
            go_roundw
            case rel => exact ⟨j + 1, by omega, by go_num, hD3⟩
            case measure => simp [intOf]; omega
          · have q1 := fun w (h : Disks W.heap.size W w [(ga, (allD ps k).flushS), (gb, (allD ps k).crash (keeps k) 0 5), (gc, (allD ps k).crash (mosts k) 0 128)]) => DPending [] [(gb, (allD ps k).crash (keeps k) 0 5), (gc, (allD ps k).crash (mosts k) 0 128)] h
            have q2 := fun w (h : Disks W.heap.size W w [(ga, (allD ps k).flushS), (gb, (allD ps k).crash (keeps k) 0 5), (gc, (allD ps k).crash (mosts k) 0 128)]) => DPending [(ga, (allD ps k).flushS)] [(gc, (allD ps k).crash (mosts k) 0 128)] h
            rw [hfp] at q1
            have hb := hD.base
            have hz := hD.size
            go_wp2_with (first
              | (go_at_call 14; with_reducible refine (q1 _ hD).mono ?_; rintro e y1 ⟨rfl, rfl⟩; clear q1)
              | (go_at_call 14; with_reducible refine (q2 _ hD).mono ?_; rintro e y2 ⟨rfl, rfl⟩; clear q2)
              | (go_at_call 17; refine (fixed_all _).mono ?_; rintro e w7 ⟨rfl, hB⟩))
            go_ret
            exact ⟨rfl, hb.trans (hB.mono hz)⟩
end Go.Proofs.Ytofoneapfokdjaa
