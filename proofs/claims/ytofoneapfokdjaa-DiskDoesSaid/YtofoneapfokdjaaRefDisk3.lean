/- Contracts of the reference's disk, on: Crash. -/
import Derived.Test.YtofoneapfokdjaaRefDisk2
import Derived.Test.YtofoneapfokdjaaRooms
namespace Go.Proofs.Ytofoneapfokdjaa
set_option linter.unusedSimpArgs false
set_option linter.unusedVariables false
open Go.RowKit
attribute [local go_sem high] run_mx run_mn

theorem mix_cut (s r : ByteArray) (k : Nat) (hr : r.size = 128) : s.extract 0 k ++ r.extract k 128 = mix s r k := by
  apply ByteArray.ext
  apply Array.toList_inj.1
  have h : r.data.toList.length = 128 := by simpa using hr
  have e1 : (s.extract 0 k ++ r.extract k 128).data.toList = (s.extract 0 k).data.toList ++ (r.extract k 128).data.toList := by simp
  have e2 : (r.extract k 128).data.toList = r.data.toList.drop k := by
    simp only [ByteArray.data_extract, Array.toList_extract, List.extract_eq_take_drop]
    rw [List.take_of_length_le (by rw [List.length_drop]; omega)]
  rw [e1, e2, extract_toList]
  simp [mix]
/-- What a crash does with the write at place k. -/
def crash1R (keep : List Bool) (torn at_ : Int) (L : List ByteArray) (k : Nat) (p : Int × ByteArray) : List ByteArray :=
  if keep[k]? = some true then L.set p.1.toNat p.2 else if (k : Int) = torn then L.set p.1.toNat (mix p.2 (L[p.1.toNat]?.getD zeros) (cutAt at_)) else L
def crashToR (keep : List Bool) (torn at_ : Int) (L : List ByteArray) (pd : List (Int × ByteArray)) : Nat → List ByteArray
  | 0 => L
  | k + 1 => match pd[k]? with
    | some p => crash1R keep torn at_ (crashToR keep torn at_ L pd k) k p
    | none => crashToR keep torn at_ L pd k
def RDsk.crash (r : RDsk) (keep : List Bool) (torn at_ : Int) : RDsk := ⟨crashToR keep torn at_ r.L r.pend r.pend.length, [], -1⟩
theorem crashToR_len (keep : List Bool) (torn at_ : Int) (L : List ByteArray) (pd : List (Int × ByteArray)) (k : Nat) : (crashToR keep torn at_ L pd k).length = L.length := by
  induction k with
  | zero => rfl
  | succ k ih =>
    unfold crashToR
    split
    · unfold crash1R
      split
      · rw [List.length_set]; exact ih
      · split
        · rw [List.length_set]; exact ih
        · exact ih
    · exact ih
/-- All that is held or pending is of a sector's size. -/
structure RDsk.Good (r : RDsk) : Prop where
  pend : ∀ p ∈ r.pend, p.2.size = 128
  L : ∀ s ∈ r.L, s.size = 128
theorem getD_size {L : List ByteArray} (h : ∀ s ∈ L, s.size = 128) (q : Nat) : (L[q]?.getD zeros).size = 128 := by
  cases hx : L[q]? with
  | none => exact zeros_size
  | some y => exact h y (List.mem_of_getElem? hx)
theorem set_size {L : List ByteArray} (h : ∀ s ∈ L, s.size = 128) (q : Nat) {t : ByteArray} (ht : t.size = 128) : ∀ s ∈ L.set q t, s.size = 128 := by
  intro s hs
  rcases List.mem_or_eq_of_mem_set hs with h1 | h1
  · exact h s h1
  · rw [h1]; exact ht
theorem crashToR_size (keep : List Bool) (torn at_ : Int) {L : List ByteArray} {pd : List (Int × ByteArray)} (hL : ∀ s ∈ L, s.size = 128) (hp : ∀ p ∈ pd, p.2.size = 128) (k : Nat) : ∀ s ∈ crashToR keep torn at_ L pd k, s.size = 128 := by
  induction k with
  | zero => exact hL
  | succ k ih =>
    unfold crashToR
    split
    · rename_i p hpk
      have hps := hp p (List.mem_of_getElem? hpk)
      unfold crash1R
      split
      · exact set_size ih _ hps
      · split
        · exact set_size ih _ (mix_size _ _ _ hps (getD_size ih _) (cutAt_le _))
        · exact ih
    · exact ih

/-- The keep list lies below all that the disk's call turns. -/
structure KeepAt (w : World) (S : Nat → Prop) (A : Option Addr) (n : Nat) (bs : List Bool) : Prop where
  len : bs.length = n
  at_ : ∀ k, k < n → ∃ ad, A = some ad ∧ ad.block < w.heap.size ∧ ¬ S ad.block ∧ w.cell? (ad.add k) = some (.bool (bs[k]?.getD false))
theorem KeepAt.keep {w w' : World} {S : Nat → Prop} {A : Option Addr} {n : Nat} {bs : List Bool} (h : KeepAt w S A n bs) (hf : Fr S w w') {k : Nat} (hk : k < n) : ∃ ad, A = some ad ∧ w'.cell? (ad.add k) = some (.bool (bs[k]?.getD false)) := by
  obtain ⟨ad, e, hb, hn, hc⟩ := h.at_ k hk
  exact ⟨ad, e, hf.cell hc (by rw [block_of_add]; exact hn)⟩

set_option maxRecDepth 100000 in
set_option maxHeartbeats 4000000 in
theorem RCrash_any (h : Nat) (r : RDsk) (hr : r.Fits) (hin : r.Ins) (hG : r.Good) (A : Option Addr) (n c : Nat) (bs : List Bool) (torn at_ : Int) (w : World) (S : Nat → Prop) (hO : (refT h r).is w S) (hk : KeepAt w S A n bs) :
    Calls Try.prog 24 #[.pointer (some ⟨h, 0, none⟩), .slice A n c, .int .i64 torn, .int .i64 at_] w fun e w' => e = .returned (.tuple #[]) ∧ Now S w w' [refT h (r.crash bs torn at_)] := by
  have hp := hr.pend
  have hpos := hr.pos
  have hlen := hr.len
  obtain ⟨vL, vW, vX, hN⟩ := (Now.start1 hO).refOpen
  obtain ⟨rL, cL, cur, rfl, _⟩ := row_form (Now.row (pre := [_]) hN) hpos
  obtain ⟨_, ⟨AW, cW, rfl, _⟩, ⟨AX, cX, rfl, _⟩⟩ := hN.refRows
  obtain ⟨nn, hn1, hn2, hn3, hn4⟩ : ∃ nn : Nat, mx 0 (mn at_ 128) = nn ∧ max 0 (min at_ 128) = (nn : Int) ∧ nn ≤ 128 ∧ cutAt at_ = nn := ⟨(max 0 (min at_ 128)).toNat, by rw [mx_def, mn_def]; omega, by omega, by omega, by unfold cutAt; omega⟩
  clear hO hr
  go_enter Try.func24, Try.ntmps24
  go_wp2
  clear hn1 hn2
  go_loopw [9] (fun i wr => ∃ k : Nat, k ≤ r.pend.length ∧ i = .int .i64 k ∧ Now S w wr (refParts h (.slice (some ⟨rL, 0, none⟩) r.L.length cL) (.slice AW r.pend.length cW) (.slice AX r.pend.length cX) (crashToR bs torn at_ r.L r.pend k) r.pend r.left)) (fun i _ => r.pend.length - (intOf i).toNat)
  case atStart => exact ⟨0, by omega, rfl, hN⟩
  case round =>
    clear hN
    obtain ⟨k, hkl, rfl, hN⟩ := hrel
    obtain ⟨c0, c1, c2, c3, cf⟩ := hN.refCells
    by_cases hlt : k < r.pend.length
    · obtain ⟨_, ⟨A1, d1, e1, r1⟩, ⟨A2, d2, e2, r2⟩⟩ := hN.refRows
      cases e1
      cases e2
      have hpk : r.pend[k]? = some r.pend[k] := List.getElem?_eq_getElem hlt
      obtain ⟨adW, rfl, g1⟩ := reads_cell (u := .int .i64 r.pend[k].1) r1 hlt (by rw [List.getElem?_map, hpk]; rfl)
      obtain ⟨adX, rfl, g2⟩ := reads_cell (u := .string r.pend[k].2) r2 hlt (by rw [List.getElem?_map, hpk]; rfl)
      have hs : crashToR bs torn at_ r.L r.pend (k + 1) = crash1R bs torn at_ (crashToR bs torn at_ r.L r.pend k) k r.pend[k] := by
        rw [crashToR, hpk]
      have hq0 := hin _ (List.getElem_mem hlt)
      have hps := hG.pend _ (List.getElem_mem hlt)
      have hcs := crashToR_size bs torn at_ hG.L hG.pend k
      have hcl := crashToR_len bs torn at_ r.L r.pend k
      have hcase : (k < n ∧ ∃ ad : Addr, A = some ad ∧ wr.cell? (ad.add k) = some (.bool true) ∧ bs[k]? = some true) ∨ (k < n ∧ ∃ ad : Addr, A = some ad ∧ wr.cell? (ad.add k) = some (.bool false) ∧ bs[k]? ≠ some true) ∨ (¬ k < n ∧ bs[k]? ≠ some true) := by
        by_cases hkn : k < n
        · obtain ⟨ad2, e, hc⟩ := hk.keep hN.fr hkn
          have hl : k < bs.length := by rw [hk.len]; exact hkn
          rw [List.getElem?_eq_getElem hl] at hc ⊢
          cases hbk : bs[k] with
          | true => rw [hbk] at hc; exact .inl ⟨hkn, ad2, e, hc, rfl⟩
          | false => rw [hbk] at hc; exact .inr (.inl ⟨hkn, ad2, e, hc, by simp⟩)
        · exact .inr (.inr ⟨hkn, by rw [List.getElem?_eq_none (by rw [hk.len]; omega)]; simp⟩)
      generalize r.pend[k] = p at *
      generalize crashToR bs torn at_ r.L r.pend k = L1 at *
      obtain ⟨q, hq⟩ : ∃ q : Nat, p.1 = q := ⟨p.1.toNat, by omega⟩
      have hqn : q < r.L.length := by omega
      have hN' := hN
      unfold refParts at hN'
      rw [hcl] at hN'
      have hrow := Now.row (pre := [_]) hN'
      obtain ⟨a1, a2⟩ := row_at hrow hqn
      have hqt : p.1.toNat = q := by omega
      rw [hq] at g1
      have hqL : q < L1.length := by omega
      obtain ⟨old, hold⟩ : ∃ old, L1[q]? = some old := ⟨_, List.getElem?_eq_getElem hqL⟩
      have holds := hcs old (List.mem_of_getElem? hold)
      replace a1 : wr.cell? ⟨rL, q, none⟩ = some (.string old) := by rw [a1, List.getElem?_map, hold]; rfl
      have hset : ∀ s : ByteArray, Now S w (wr.setCell ⟨rL, q, none⟩ (.string s)) (refParts h (.slice (some ⟨rL, 0, none⟩) r.L.length cL) (.slice (some adW) r.pend.length cW) (.slice (some adX) r.pend.length cX) (L1.set q s) r.pend r.left) := by
        intro s
        have := Now.rowSet (pre := [_]) hN' hqn (.string s)
        show Now S w _ [_, Thing.row _ 1 _ (L1.set q s).length (strs (L1.set q s)), _, _]
        rw [List.length_set, hcl, show strs (L1.set q s) = (strs L1).set q (.string s) from List.map_set ..]
        exact this
      have hq1 : (q : Int) < (r.L.length : Int) := by omega
      have hk1 : (k : Int) < (r.pend.length : Int) := by omega
      unfold crash1R at hs
      rw [hqt, hold] at hs
      clear hN' hrow hqt hpk hq0 cf r1 r2 hin hqL hcs hcl hG hk hold
      rcases hcase with ⟨hkn, ad2, rfl, hc, hb⟩ | hcase
      · rw [if_pos hb] at hs
        have HS := Lib.hid (hset p.2)
        replace hs := Lib.hid hs
        clear hset hb hq hN
        go_wp2_with fail
        refine wp_region_still_tail 13 (by kernel_rfl) (by kernel_rfl) ?_
        simp only [List.take_succ_cons, List.take_zero, List.drop_succ_cons, List.drop_zero]
        change wpStill _ _ wr.drew _ _ _
        repeat (first | still_step)
        refine wpStill_nil ?_
        change wpList _ _ _ _ _ wr.drew
        go_wp2_with fail
        go_roundw
        case rel => exact ⟨k + 1, by omega, by go_num, by rw [hs.out]; exact HS.out.drew⟩
        case measure => simp [intOf]; omega
      · have hb : bs[k]? ≠ some true := by rcases hcase with ⟨_, _, _, _, h⟩ | ⟨_, h⟩ <;> exact h
        have hcase' : (k < n ∧ ∃ ad : Addr, A = some ad ∧ wr.cell? (ad.add k) = some (.bool false)) ∨ ¬ k < n := by
          rcases hcase with ⟨h1, ad, h2, h3, _⟩ | ⟨h1, _⟩
          · exact .inl ⟨h1, ad, h2, h3⟩
          · exact .inr h1
        rw [if_neg hb] at hs
        clear hcase hb
        by_cases ht : (k : Int) = torn
        · rw [if_pos ht, hn4] at hs
          have ht1 : (k : Int) ≤ torn := by omega
          have ht2 : torn ≤ (k : Int) := by omega
          have hadd : (Op.stringOp .add (p.2.extract 0 nn) (old.extract nn 128)).run Try.prog wr.drew = .ok (.string (mix p.2 old nn)) wr.drew := by
            rw [run_string_add_sum, mix_cut _ _ _ holds]
            rw [ByteArray.size_extract, ByteArray.size_extract, holds]; omega
          have HS := Lib.hid (hset (mix p.2 old nn))
          replace hs := Lib.hid hs
          have hn5 : (nn : Int) ≤ 128 := by omega
          clear hset hN ht hn4 hq
          rcases hcase' with ⟨hkn, ad2, rfl, hc⟩ | hkn
          all_goals
            go_wp2_with fail
            refine wp_region_still_tail 25 (by kernel_rfl) (by kernel_rfl) ?_
            simp only [List.take_succ_cons, List.take_zero, List.drop_succ_cons, List.drop_zero]
            change wpStill _ _ wr.drew _ _ _
            repeat (first | still_step)
            refine wpStill_nil ?_
            change wpList _ _ _ _ _ wr.drew
            go_wp2_with fail
            go_roundw
            case rel => exact ⟨k + 1, by omega, by go_num, by rw [hs.out]; exact HS.out.drew⟩
            case measure => simp [intOf]; omega
        · rw [if_neg ht] at hs
          have HS := Lib.hid hN
          replace hs := Lib.hid hs
          clear hset hN hq
          rcases hcase' with ⟨hkn, ad2, rfl, hc⟩ | hkn
          all_goals
            go_wp2_with fail
            go_roundw
            case rel => exact ⟨k + 1, by omega, by go_num, by rw [hs.out]; exact HS.out⟩
            case measure => simp [intOf]; omega
    · obtain rfl : k = r.pend.length := by omega
      have f1 := cf 1
      have f2 := cf 2
      have f3 := cf 3
      have h1 := Now.set_ (pre := []) hN 1 (.slice none 0 0)
      have h2 := Now.set_ (pre := []) h1 2 (.slice none 0 0)
      have h22 := Now.set_ (pre := []) h2 3 (.int .i64 (-1))
      have h3 : Now S w (((wr.setCell ⟨h, 1, none⟩ (.slice none 0 0)).setCell ⟨h, 2, none⟩ (.slice none 0 0)).setCell ⟨h, 3, none⟩ (.int .i64 (-1))) (refParts h (.slice (some ⟨rL, 0, none⟩) r.L.length cL) (.slice none 0 0) (.slice none 0 0) (crashToR bs torn at_ r.L r.pend r.pend.length) [] (-1)) :=
        Now.rowNil (t' := 9) (size' := 1) (pre := [_, _, _]) (Now.rowNil (t' := 3) (size' := 1) (pre := [_, _]) h22)
      have HS := Lib.hid h3
      clear hN h1 h2 h22 h3 cf hin hk
      go_wp2
      go_end0
      exact ⟨rfl, HS.out.refClose⟩
end Go.Proofs.Ytofoneapfokdjaa
