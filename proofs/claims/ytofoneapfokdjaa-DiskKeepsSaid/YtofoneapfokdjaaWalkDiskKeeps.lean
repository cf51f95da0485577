/- The walk of the law DiskKeeps. -/
import Derived.Test.YtofoneapfokdjaaKeepsPure
import Derived.StillTailTactics
namespace Go.Proofs.Ytofoneapfokdjaa
open Go.RowKit
attribute [local go_sem high] run_mx run_mn

theorem infoStr : (Try.prog.info? 9).map (fun i => (i.zero, i.size, i.bytes)) = some (some (.string ByteArray.empty), 1, 16) := by kernel_rfl
theorem fullAfter (w : World) : Calls Try.prog 11 #[.string ⟨#[97, 102, 116, 101, 114]⟩] w fun e w' => e = .returned (.string afterB) ∧ w = w' := Full_any _ w (by decide)
def firstS (ss : List ByteArray) (k : Nat) : List Value := (List.range k).map fun i => .string (full (ss[i]?.getD ⟨#[]⟩))
theorem firstS_succ (ss : List ByteArray) (k : Nat) : firstS ss (k + 1) = firstS ss k ++ [.string (full (ss[k]?.getD ⟨#[]⟩))] := by
  unfold firstS; rw [List.range_succ, List.map_append]; rfl

set_option maxRecDepth 100000 in
set_option maxHeartbeats 4000000 in
theorem walkDiskKeeps (W : World) (A : Option Addr) (n c : Nat) (ss : List ByteArray) (w1 : IsStrs W A n c ss) (A' : Option Addr) (n' c' : Nat) (xs : List Int) (w2 : IsInts .u8 1 W A' n' c' xs) (p : Int × Int) (_w3 : GoodPair .i64 p) :
    Calls Try.prog 3 #[.slice A n c, .slice A' n' c', .agg #[.int .i64 p.1, .int .i64 p.2]] W fun e w' => e = .returned (.bool true) ∧ Below W.heap.size W w' := by
  have hle := w1.le
  have hcap := w1.cap
  have hle' := w2.le
  have hcap' := w2.cap
  unfold maxLen at hcap hcap'
  have hr1 := (w1.reads_.alloc (Nat.le_refl _) (.cells #[.int .i64 p.1, .int .i64 p.2] 24)).more (B' := (W.alloc (.cells #[.int .i64 p.1, .int .i64 p.2] 24)).heap.size) (by simp)
  have hr2 := (w2.reads.alloc (Nat.le_refl _) (.cells #[.int .i64 p.1, .int .i64 p.2] 24)).more (B' := (W.alloc (.cells #[.int .i64 p.1, .int .i64 p.2] 24)).heap.size) (by simp)
  have hsz : ∀ (j : Nat) (s : ByteArray), ss[j]? = some s → s.size ≤ 9223372036854775807 := fun j s h => w1.good s (List.mem_of_getElem? h)
  have hlen1 := w1.len
  have hwf := w2.wf
  clear w1 w2
  go_enter Try.func3, Try.ntmps3
  go_wp2_with (first
    | (go_at_call 9; with_reducible refine (DNew (Disks.start (W.alloc (.cells #[.int .i64 p.1, .int .i64 p.2] 24))) 8 (by omega) (by omega)).mono ?_; rintro e v1 ⟨g, rfl, h1, _⟩))
  have hbl := Blk.new W 24 #[.int .i64 p.1, .int .i64 p.2]
  have hW1 : Below W.heap.size W (W.alloc (.cells #[.int .i64 p.1, .int .i64 p.2] 24)) := (Below.refl _ _).alloc (Nat.le_refl _) _
  have hW2 : W.heap.size < (W.alloc (.cells #[.int .i64 p.1, .int .i64 p.2] 24)).heap.size := by simp
  generalize W.alloc (.cells #[.int .i64 p.1, .int .i64 p.2] 24) = W1 at *
  have hK := Room.new h1 9 #[] 0 rfl (by simp [maxLen])
  have h3 := h1.alloc (.cells #[] 9)
  clear h1
  go_loopw [9, 10] (fun va i wr => ∃ k : Nat, k ≤ 8 ∧ i = .int .i64 k ∧ Disks W1.heap.size W1 wr [(g, upA ss k)] ∧ Room wr [(g, upA ss k)] W1.heap.size 9 va k (firstS ss k)) (fun _ i _ => 8 - (intOf i).toNat)
  case atStart => exact ⟨0, by omega, rfl, h3, hK⟩
  case round =>
    clear h3 hK
    obtain ⟨k, hk, rfl, hD, hA⟩ := hrel
    by_cases hlt : k < 8
    · have hcase : (k < n ∧ ∃ (ad : Addr) (s : ByteArray), A = some ad ∧ wr.cell? (ad.add k) = some (.string s) ∧ s.size ≤ 9223372036854775807 ∧ full (ss[k]?.getD ⟨#[]⟩) = full s) ∨ (¬ k < n ∧ full (ss[k]?.getD ⟨#[]⟩) = zeros) := by
        by_cases h : k < n
        · obtain ⟨ad, u, rfl, hb, hx, hc⟩ := hr1.at_ h
          simp only [List.getElem?_map, Option.map_eq_some_iff] at hx
          obtain ⟨s, hs, rfl⟩ := hx
          exact .inl ⟨h, ad, s, rfl, (hD.base.cell (p := ad.add k) (by rw [block_of_add]; exact hb)).trans hc, hsz _ _ hs, by rw [hs]; rfl⟩
        · exact .inr ⟨h, by rw [List.getElem?_eq_none (by omega)]; exact if_pos rfl⟩
      have hU := upA_facts ss k (by omega)
      have hpl := hU.len
      obtain ⟨we, _⟩ := write_facts (upA ss k) (k : Int) (full (ss[k]?.getD ⟨#[]⟩)) hU.n hU.lim ⟨by omega, by omega⟩ (full_size _)
      have ws : (upA ss k).writeS (k : Int) (full (ss[k]?.getD ⟨#[]⟩)) = upA ss (k + 1) := rfl
      have hw1 : ∀ w, Disks W1.heap.size W1 w [(g, upA ss k)] → Calls Try.prog 12 #[.pointer (some ⟨g, 0, none⟩), .int .i64 k, .string (full (ss[k]?.getD ⟨#[]⟩))] w fun e w' => e = .returned (.int .i64 0) ∧ Disks W1.heap.size W1 w' [(g, upA ss (k + 1))] ∧ Turn w w' [(g, upA ss k)] [(g, upA ss (k + 1))] := fun w h => by
        have := TWrite [] [] h k (full (ss[k]?.getD ⟨#[]⟩)) (by omega)
        rw [we, ws] at this; exact this
      have ek := Lib.hid (firstS_succ ss k)
      have hm1 : k + 1 ≤ maxLen := by unfold maxLen; omega
      have hm2 : (k + 1) * 16 ≤ 140737488355328 := by omega
      obtain ⟨i0, hi, hz0, hz1, hz2⟩ := info_parts infoStr
      clear hU we ws hpl hr1 hr2 hsz hbl hW1 hW2 hwf
      rcases hcase with ⟨hkn, ad, s, rfl, hc, hs, he⟩ | ⟨hkn, he⟩
      all_goals
        rw [he] at hw1 ek
        clear he
        go_wp2_with (first
          | (go_at_call 10; with_reducible refine (Zero_any _).mono ?_; rintro e w3 ⟨rfl, rfl⟩)
          | (go_at_call 11; with_reducible refine (Full_any s _ hs).mono ?_; rintro e w3 ⟨rfl, rfl⟩)
          | (go_at_call 12; with_reducible refine (hw1 _ hD).mono ?_; rintro e x1 ⟨rfl, hD1, hT1⟩; have hA1 := hA.turn hT1; have hz3 := hD1.size; clear hw1 hD hT1 hA)
          | (at_builtin; refine wpList_app1 _ rfl _ _ 22 rfl W1.heap.size 9 Try.underlying22 hi hz0 hz1 hz2 rfl hA1.row rfl rfl rfl hm1 hm2 hz3 ?_; intro va' x4 hoa hga hna; obtain ⟨hD4, hA4⟩ := hA1.grown hD1 hoa hga (hna.imp id fun h => ⟨_, by simp, h⟩); clear hD1 hA1 hoa hga hna hz3))
        go_roundw
        case rel => exact ⟨k + 1, by omega, by go_num, hD4, by rw [ek.out]; exact hA4⟩
        case measure => simp [intOf]; omega
    · obtain rfl : k = 8 := by omega
      obtain ⟨r, cr, _, rfl, _⟩ := hA.form (by omega)
      obtain ⟨fe, f1, f2, f3, f4, f5⟩ := up_flush ss
      have hl8 := (upA_facts ss 8 (Nat.le_refl _)).len
      have hf1 : ∀ w, Disks W1.heap.size W1 w [(g, upA ss 8)] → Calls Try.prog 13 #[.pointer (some ⟨g, 0, none⟩)] w fun e w' => e = .returned (.int .i64 0) ∧ Disks W1.heap.size W1 w' [(g, keepD ss xs 0)] ∧ Turn w w' [(g, upA ss 8)] [(g, keepD ss xs 0)] := fun w h => by
        have := TFlush [] [] h (by omega)
        rw [fe] at this; exact this
      have hq1 : ∀ w, Disks W1.heap.size W1 w [(g, keepD ss xs 0)] → Calls Try.prog 14 #[.pointer (some ⟨g, 0, none⟩)] w fun e w' => e = .returned (.int .i64 0) ∧ w = w' := fun w h => by
        have := DPending [] [] h
        rw [show (keepD ss xs 0).pend = [] from f3] at this; exact this
      clear fe f1 f2 f3 f4 f5 hl8 hr1 hsz
      go_wp2_with (first
        | (go_at_call 13; with_reducible refine (hf1 _ hD).mono ?_; rintro e x1 ⟨rfl, hD1, hT1⟩; have hA1 := hA.turn hT1; clear hf1 hD hT1 hA)
        | (go_at_call 14; with_reducible refine (hq1 _ hD1).mono ?_; rintro e x2 ⟨rfl, rfl⟩; clear hq1))
      go_loopw [12] (fun i wr => ∃ k : Nat, k ≤ n' ∧ k ≤ 20 ∧ i = .int .i64 k ∧ Disks W1.heap.size W1 wr [(g, keepD ss xs k)] ∧ Room wr [(g, keepD ss xs k)] W1.heap.size 9 (.slice (some ⟨r, 0, none⟩) 8 cr) 8 ((keepW ss xs p.1 p.2 k).map Value.string)) (fun i _ => n' - (intOf i).toNat)
      case atStart => exact ⟨0, by omega, by omega, rfl, hD1, hA1⟩
      case round =>
        clear hD1 hA1
        obtain ⟨k, hk, hk20, rfl, hD, hA⟩ := hrel
        by_cases hlt : k < n' ∧ k < 20
        · obtain ⟨hlt, hlt2⟩ := hlt
          obtain ⟨ad, u, rfl, hb, hx, hcW⟩ := hr2.at_ hlt
          simp only [List.getElem?_map, Option.map_eq_some_iff] at hx
          obtain ⟨x, hx, rfl⟩ := hx
          have hwx := bounds_u8 (hwf x (List.mem_of_getElem? hx))
          obtain ⟨q, hq, hq8⟩ : ∃ q : Nat, x % 8 = q ∧ q < 8 := ⟨(x % 8).toNat, by omega, by omega⟩
          have hF : keepF xs k = ((q : Int), afterB) := by unfold keepF; rw [hx]; show (x % 8, _) = _; rw [hq]
          have hpl : (keepD ss xs k).pend.length = k := by rw [(keepD_facts ss xs k).1.pend]; simp
          have we := keepD_write ss xs k
          have ws : (keepD ss xs k).writeS (keepF xs k).1 (keepF xs k).2 = keepD ss xs (k + 1) := rfl
          rw [hF] at we ws
          have hw1 : ∀ w, Disks W1.heap.size W1 w [(g, keepD ss xs k)] → Calls Try.prog 12 #[.pointer (some ⟨g, 0, none⟩), .int .i64 q, .string afterB] w fun e w' => e = .returned (.int .i64 0) ∧ Disks W1.heap.size W1 w' [(g, keepD ss xs (k + 1))] ∧ Turn w w' [(g, keepD ss xs k)] [(g, keepD ss xs (k + 1))] := fun w h => by
            have := TWrite [] [] h q afterB (by omega)
            rw [we, ws] at this; exact this
          have hval : (IntKind.i64.wrap x).tmod 8 = (q : Int) := by rw [wrap_tmod x 8 hwx]; exact hq
          have hval2 : (wrap64 x).tmod 8 = (q : Int) := by
            rw [show wrap64 x = x from by unfold wrap64; omega, Int.tmod_eq_emod_of_nonneg hwx.1]; exact hq
          have hbk : (ad.add k).block < W1.heap.size := by rw [block_of_add]; exact hb
          have c0 := (hD.base.cell hbk).trans hcW
          have hA0 := hA.drew hD
          have hD0 := hD.drew
          clear we ws hpl hr2 hwf hx hD hA
          go_wp2_with fail
          go_region_held3 (fun w' => w'.cell? (ad.add k) = some (.int .u8 x)) (first | with_reducible exact c0 | with_reducible exact (hD1.base.cell hbk).trans hcW | go_keep) (first | (go_at_call 11; refine (fullAfter _).mono ?_; rintro e w3 ⟨rfl, rfl⟩) | (go_at_call 12; (try rw [hval]); with_reducible refine (hw1 _ hD0).mono ?_; rintro e x1 ⟨rfl, hD1, hT1⟩; have hA1 := hA0.turn hT1; clear hw1 hD0 hA0 hT1))
          have t0 := (hD1.base.cell (p := ⟨W.heap.size, 0, none⟩) hW2).trans (hbl.cell 0)
          have t1 := (hD1.base.cell (p := ⟨W.heap.size, 1, none⟩) hW2).trans (hbl.cell 1)
          by_cases hn : (k : Int) = p.1
          · have hn1 : (k : Int) ≤ p.1 := by omega
            have hn2 : p.1 ≤ (k : Int) := by omega
            have HN := Lib.hid hn
            clear hn
            obtain ⟨kk, hk1, hk2, hk3, hk4⟩ : ∃ kk : Nat, mx 0 (mn p.2 128) = kk ∧ max 0 (min p.2 128) = (kk : Int) ∧ kk ≤ 128 ∧ cutAt p.2 = kk := ⟨(max 0 (min p.2 128)).toNat, by rw [mx_def, mn_def]; omega, by omega, by omega, by unfold cutAt; omega⟩
            obtain ⟨cur, hcur⟩ : ∃ cur, (keepW ss xs p.1 p.2 k)[q]? = some cur := ⟨_, List.getElem?_eq_getElem (by rw [keepW_len]; exact hq8)⟩
            have hcs := keepW_size ss xs p.1 p.2 k cur (List.mem_of_getElem? hcur)
            obtain ⟨a1, a2⟩ := hA1.at_ hq8
            rw [List.getElem?_map, hcur] at a1
            have a1 : x1.cell? ⟨r, q, none⟩ = some (.string cur) := a1
            have cx : x1.cell? (ad.add k) = some (.int .u8 x) := (hD1.base.cell hbk).trans hcW
            have hadd : (Op.stringOp .add (afterB.extract 0 kk) (cur.extract kk 128)).run Try.prog x1.drew = .ok (.string (mix afterB cur (cutAt p.2))) x1.drew := by
              rw [run_string_add_sum, mix_add _ _ _ hcs, hk4]
              rw [ByteArray.size_extract, ByteArray.size_extract, hcs]; omega
            have haz : afterB.size = 128 := full_size _
            have hk5 : (kk : Int) ≤ 128 := by omega
            have hq9 : (q : Int) < 8 := by omega
            go_wp2_with fail
            refine wp_region_still_tail 23 (by kernel_rfl) (by kernel_rfl) ?_
            simp only [List.take_succ_cons, List.take_zero, List.drop_succ_cons, List.drop_zero]
            change wpStill _ _ x1.drew _ _ _
            repeat (first | still_step | still_call ((fullAfter _).mono fun _ _ h => ⟨h.1, h.2.symm⟩))
            refine wpStill_nil ?_
            change wpList _ _ _ _ _ x1.drew
            go_wp2_with fail
            go_roundw
            case rel =>
              obtain ⟨hD2, hA2⟩ := hA1.set hD1 hq8 (.string (mix afterB cur kk))
              refine ⟨k + 1, by omega, by omega, by go_num, hD2.drew, ?_⟩
              have e : (keepW ss xs p.1 p.2 (k + 1)).map Value.string = ((keepW ss xs p.1 p.2 k).map Value.string).set q (.string (mix afterB cur (cutAt p.2))) := by
                show (if (k : Int) = p.1 then (keepW ss xs p.1 p.2 k).set (keepF xs k).1.toNat (mix afterB ((keepW ss xs p.1 p.2 k)[(keepF xs k).1.toNat]?.getD zeros) (cutAt p.2)) else keepW ss xs p.1 p.2 k).map Value.string = _
                rw [if_pos HN.out, hF]
                show ((keepW ss xs p.1 p.2 k).set q (mix afterB ((keepW ss xs p.1 p.2 k)[q]?.getD zeros) (cutAt p.2))).map Value.string = _
                rw [hcur, List.map_set]; rfl
              rw [e, hk4]; exact hA2.drew hD2
            case measure => simp [intOf]; omega
          · have e : keepW ss xs p.1 p.2 (k + 1) = keepW ss xs p.1 p.2 k := if_neg hn
            have he := Lib.hid e
            clear e
            go_wp2_with fail
            go_roundw
            case rel => exact ⟨k + 1, by omega, by omega, by go_num, hD1, by rw [he.out]; exact hA1⟩
            case measure => simp [intOf]; omega
        · have hgd : (k < n' ∧ ¬ k < 20) ∨ ¬ k < n' := by omega
          clear hlt
          obtain ⟨hO, _⟩ := keepD_facts ss xs k
          have hpl : (keepD ss xs k).pend.length ≤ 1000000000 := by rw [hO.pend]; simp; omega
          have t0 := (hD.base.cell (p := ⟨W.heap.size, 0, none⟩) hW2).trans (hbl.cell 0)
          have t1 := (hD.base.cell (p := ⟨W.heap.size, 1, none⟩) hW2).trans (hbl.cell 1)
          have hc1 : ∀ w, Disks W1.heap.size W1 w [(g, keepD ss xs k)] → Calls Try.prog 15 #[.pointer (some ⟨g, 0, none⟩), .slice none 0 0, .int .i64 p.1, .int .i64 p.2] w fun e w' => e = .returned (.tuple #[]) ∧ Disks W1.heap.size W1 w' [(g, (keepD ss xs k).crash [] p.1 p.2)] ∧ Turn w w' [(g, keepD ss xs k)] [(g, (keepD ss xs k).crash [] p.1 p.2)] := fun w h =>
            TCrash [] [] h none 0 0 [] p.1 p.2 hO.good hpl (Bools.nil w _)
          have hpa : ((keepD ss xs k).crash [] p.1 p.2).pend = [] := rfl
          have hread := fun q hq => keep_read ss xs p.1 p.2 k q hq
          generalize (keepD ss xs k).crash [] p.1 p.2 = da at *
          clear hO hpl hr2 hwf
          rcases hgd with ⟨h1, h2⟩ | h1
          all_goals
            go_wp2_with (first
              | (go_at_call 15; with_reducible refine (hc1 _ hD).mono ?_; rintro e y1 ⟨rfl, hD1, hT1⟩; have hA1 := hA.turn hT1; clear hc1 hD hT1 hA))
            go_loopw [14] (fun i wr => ∃ j : Nat, j ≤ 8 ∧ i = .int .i64 j ∧ Disks W1.heap.size W1 wr [(g, da)] ∧ Room wr [(g, da)] W1.heap.size 9 (.slice (some ⟨r, 0, none⟩) 8 cr) 8 ((keepW ss xs p.1 p.2 k).map Value.string)) (fun i _ => 8 - (intOf i).toNat)
            case atStart => exact ⟨0, by omega, rfl, hD1, hA1⟩
            case round =>
              clear hD1 hA1
              obtain ⟨j, hj, rfl, hD, hA⟩ := hrel
              by_cases hlt : j < 8
              · obtain ⟨e1, e2⟩ := hread j hlt
                have r1 : ∀ w, Disks W1.heap.size W1 w [(g, da)] → Calls Try.prog 16 #[.pointer (some ⟨g, 0, none⟩), .int .i64 j] w fun e w' => e = .returned (.tuple #[.string (da.readV j), .int .i64 0]) ∧ Disks W1.heap.size W1 w' [(g, da)] ∧ Turn w w' [(g, da)] [(g, da)] := fun w h => by
                  have := TRead [] [] h (j : Int) (by rw [hpa]; simp)
                  rw [e1] at this; exact this
                have a3 : ((keepW ss xs p.1 p.2 k).map Value.string)[j]? = some (.string (da.readV j)) := by rw [List.getElem?_map, e2]; rfl
                clear e1 e2 hread
                generalize da.readV (j : Int) = s at *
                go_wp2_with (first
                    | (go_at_call 16; with_reducible refine (r1 _ hD).mono ?_; rintro e y1 ⟨rfl, hD1, hT1⟩; have hA1 := hA.turn hT1; have c5 := (hA1.at_ hlt).1.trans a3; clear r1 hD hA hT1))
                go_roundw
                case rel => exact ⟨j + 1, by omega, by go_num, hD1, hA1⟩
                case measure => simp [intOf]; omega
              · have hb := hD.base
                have hz := hD.size
                have hq : ∀ w, Disks W1.heap.size W1 w [(g, da)] → Calls Try.prog 14 #[.pointer (some ⟨g, 0, none⟩)] w fun e w' => e = .returned (.int .i64 0) ∧ w = w' := fun w h => by
                  have := DPending [] [] h
                  rw [hpa] at this; exact this
                go_wp2_with (first
                    | (go_at_call 14; with_reducible refine (hq _ hD).mono ?_; rintro e x2 ⟨rfl, rfl⟩; clear hq)
                    | (go_at_call 17; refine (fixed_all _).mono ?_; rintro e w7 ⟨rfl, hB⟩))
                go_ret
                exact ⟨rfl, hW1.trans ((hb.trans (hB.mono hz)).mono (by omega))⟩
end Go.Proofs.Ytofoneapfokdjaa
