/- Contracts of the reference's disk, on: Flush in all cases, Read, New, Crash. -/
import Derived.Test.YtofoneapfokdjaaRefDisk
namespace Go.Proofs.Ytofoneapfokdjaa
set_option linter.unusedSimpArgs false
set_option linter.unusedVariables false
open Go.RowKit
attribute [local go_sem high] run_mx run_mn

set_option maxRecDepth 100000 in
theorem RFlush_dead (h : Nat) (r : RDsk) (hr : r.Fits) (hl : r.left = 0) : Loc Try.prog 35 #[.pointer (some ⟨h, 0, none⟩)] (refT h r) (.int .i64 9) (refT h r) := by
  intro w S hO
  have hu := Ruse_any h r hr.hi hr.lo w S hO
  have e1 : decide (r.left ≠ 0) = false := by simp [hl]
  have e2 : r.use = r := by unfold RDsk.use; rw [if_neg (by omega)]
  rw [e1, e2] at hu
  clear hO hr hl e1 e2
  go_enter Try.func35, Try.ntmps35
  go_wp2_with (go_at_call 41; refine hu.mono ?_; rintro e w1 ⟨rfl, hN1⟩; clear hu)
  go_ret
  exact ⟨rfl, hN1⟩
theorem RFlush_all (h : Nat) (r : RDsk) (hr : r.Fits) (hin : r.Ins) : Loc Try.prog 35 #[.pointer (some ⟨h, 0, none⟩)] (refT h r) (.int .i64 r.flushE) (refT h r.flushS) := by
  unfold RDsk.flushE RDsk.flushS
  by_cases hl : r.left = 0
  · rw [if_pos hl, if_pos hl]; exact RFlush_dead h r hr hl
  · rw [if_neg hl, if_neg hl]; exact RFlush_ok h r hr hin hl

def RDsk.readE (r : RDsk) (i : Int) : Int := if 0 ≤ i ∧ i < r.L.length then 0 else 1
/-- What sector i will hold when the first k of what is pending are done. -/
def readTo (L : List ByteArray) (pd : List (Int × ByteArray)) (i : Int) : Nat → ByteArray
  | 0 => L[i.toNat]?.getD zeros
  | k + 1 => match pd[k]? with
    | some p => if p.1 = i then p.2 else readTo L pd i k
    | none => readTo L pd i k
def RDsk.readV (r : RDsk) (i : Int) : ByteArray := if 0 ≤ i ∧ i < r.L.length then readTo r.L r.pend i r.pend.length else ⟨#[]⟩

theorem RRead_bad (h : Nat) (r : RDsk) (i : Int) (hi : ¬ (0 ≤ i ∧ i < r.L.length)) :
    Loc Try.prog 37 #[.pointer (some ⟨h, 0, none⟩), .int .i64 i] (refT h r) (.tuple #[.string ⟨#[]⟩, .int .i64 1]) (refT h r) := by
  intro w S hO
  obtain ⟨vL, vW, vX, hN⟩ := (Now.start1 hO).refOpen
  obtain ⟨c0, c1, c2, c3, cf⟩ := hN.refCells
  obtain ⟨⟨A, c, rfl, _⟩, _⟩ := hN.refRows
  have HN := Lib.hid hN
  clear hN c1 c2 c3 cf hO
  by_cases h0 : i < 0
  · go_enter Try.func37, Try.ntmps37
    go_wp2
    go_ret2
    exact ⟨rfl, HN.out.refClose⟩
  · have h1 : (r.L.length : Int) ≤ i := by omega
    clear hi
    go_enter Try.func37, Try.ntmps37
    go_wp2
    go_ret2
    exact ⟨rfl, HN.out.refClose⟩
set_option maxRecDepth 100000 in
set_option maxHeartbeats 1600000 in
theorem RRead_ok (h : Nat) (r : RDsk) (i : Int) (hr : r.Fits) (hi : 0 ≤ i ∧ i < r.L.length) :
    Loc Try.prog 37 #[.pointer (some ⟨h, 0, none⟩), .int .i64 i] (refT h r) (.tuple #[.string (readTo r.L r.pend i r.pend.length), .int .i64 0]) (refT h r) := by
  intro w S hO
  obtain ⟨vL, vW, vX, hN⟩ := (Now.start1 hO).refOpen
  obtain ⟨c0, c1, c2, c3, cf⟩ := hN.refCells
  obtain ⟨⟨AL, cL, rfl, rd0⟩, ⟨AW, cW, rfl, rd1⟩, ⟨AX, cX, rfl, rd2⟩⟩ := hN.refRows
  obtain ⟨q, rfl⟩ : ∃ q : Nat, i = q := ⟨i.toNat, by omega⟩
  have hql : q < r.L.length := by omega
  obtain ⟨ad, rfl, g0⟩ := reads_cell (u := .string r.L[q]) rd0 hql (by rw [List.getElem?_map, List.getElem?_eq_getElem hql]; rfl)
  have hq1 : (q : Int) < (r.L.length : Int) := by omega
  have hst : readTo r.L r.pend (q : Int) 0 = r.L[q] := by show (r.L[((q : Int)).toNat]?).getD zeros = _; rw [Int.toNat_natCast, List.getElem?_eq_getElem hql]; rfl
  have hp := hr.pend
  have hlen := hr.len
  have HST := Lib.hid hst
  have HN := Lib.hid hN
  have HR1 := Lib.hid rd1
  have HR2 := Lib.hid rd2
  generalize r.L[q] = s0 at *
  clear hN cf hO c3 hr rd0 rd1 rd2 hst hi
  go_enter Try.func37, Try.ntmps37
  go_wp2
  clear c0 g0
  go_loop [6, 7] (fun s i => ∃ k : Nat, k ≤ r.pend.length ∧ i = .int .i64 k ∧ s = .string (readTo r.L r.pend (q : Int) k)) (fun _ i => r.pend.length - (intOf i).toNat)
  case atStart => exact ⟨0, by omega, rfl, by rw [HST.out]⟩
  case round =>
    obtain ⟨k, hk, rfl, rfl⟩ := hrel
    by_cases hlt : k < r.pend.length
    · have hpk : r.pend[k]? = some r.pend[k] := List.getElem?_eq_getElem hlt
      obtain ⟨adW, rfl, g1⟩ := reads_cell (u := .int .i64 r.pend[k].1) HR1.out hlt (by rw [List.getElem?_map, hpk]; rfl)
      obtain ⟨adX, rfl, g2⟩ := reads_cell (u := .string r.pend[k].2) HR2.out hlt (by rw [List.getElem?_map, hpk]; rfl)
      have hs : readTo r.L r.pend (q : Int) (k + 1) = if r.pend[k].1 = (q : Int) then r.pend[k].2 else readTo r.L r.pend (q : Int) k := by
        show (match r.pend[k]? with | some p => _ | none => _) = _
        rw [hpk]
      have HS := Lib.hid hs
      clear hs hpk
      generalize r.pend[k] = p at *
      by_cases hx : p.1 = (q : Int)
      · have hx1 : p.1 ≤ (q : Int) := by omega
        have hx2 : (q : Int) ≤ p.1 := by omega
        have HX := Lib.hid hx
        clear hx
        go_wp2
        go_round
        case rel => exact ⟨k + 1, by omega, by go_num, by rw [HS.out, if_pos HX.out]⟩
        case measure => simp [intOf]; omega
      · go_wp2
        go_round
        case rel => exact ⟨k + 1, by omega, by go_num, by rw [HS.out, if_neg hx]⟩
        case measure => simp [intOf]; omega
    · obtain rfl : k = r.pend.length := by omega
      go_wp2
      go_ret2
      exact ⟨rfl, HN.out.refClose⟩
theorem RRead_all (h : Nat) (r : RDsk) (i : Int) (hr : r.Fits) : Loc Try.prog 37 #[.pointer (some ⟨h, 0, none⟩), .int .i64 i] (refT h r) (.tuple #[.string (r.readV i), .int .i64 (r.readE i)]) (refT h r) := by
  unfold RDsk.readV RDsk.readE
  by_cases hi : 0 ≤ i ∧ i < r.L.length
  · rw [if_pos hi, if_pos hi]; exact RRead_ok h r i hr hi
  · rw [if_neg hi, if_neg hi]; exact RRead_bad h r i hi

theorem RNew_bad (n : Int) (w : World) (hn : n < 1 ∨ 4096 < n) :
    Calls Try.prog 19 #[.int .i64 n] w fun e w' => e = .returned (.tuple #[.pointer none, .int .i64 1]) ∧ w = w' := by
  by_cases h1 : n < 1
  · go_enter Try.func19, Try.ntmps19
    go_wp2
    go_ret2
    exact ⟨rfl, rfl⟩
  · have h2 : 4096 < n := by omega
    go_enter Try.func19, Try.ntmps19
    go_wp2
    go_ret2
    exact ⟨rfl, rfl⟩
def newRef (n : Nat) : RDsk := ⟨List.replicate n zeros, [], -1⟩
theorem strs_succ (k : Nat) : strs (List.replicate (k + 1) zeros) = strs (List.replicate k zeros) ++ [.string zeros] := by
  unfold strs; rw [List.replicate_succ', List.map_append]; rfl
set_option maxRecDepth 100000 in
set_option maxHeartbeats 1600000 in
theorem RNew_ok (n : Nat) (w : World) (hn : 1 ≤ n) (hn2 : n ≤ 4096) :
    Calls Try.prog 19 #[.int .i64 n] w fun e w' => ∃ h, e = .returned (.tuple #[.pointer (some ⟨h, 0, none⟩), .int .i64 0]) ∧ Now (fun _ => False) w w' [refT h (newRef n)] := by
  obtain ⟨j0, hj0, hy0, hy1, hy2⟩ := info_parts infoStr5
  have hN0 : Now (fun _ => False) w (w.alloc (.cells #[.slice none 0 0, .slice none 0 0, .slice none 0 0, .int .i64 (-1)] 75)) (refParts w.heap.size (.slice none 0 0) (.slice none 0 0) (.slice none 0 0) [] [] (-1)) :=
    ((((Sep.start w).pushNil 9 1).pushNil 3 1).pushNil 9 1).pushCells 75 _
  go_enter Try.func19, Try.ntmps19
  go_wp2_with (go_at_call 10; with_reducible refine (Zero_any _).mono ?_; rintro e w3 ⟨rfl, rfl⟩)
  obtain ⟨h, hh⟩ : ∃ h, w.heap.size = h := ⟨_, rfl⟩
  rw [hh] at hN0 ⊢
  have HH := Lib.hid hh
  clear hh
  go_loopw [6] (fun i wr => ∃ (k : Nat) (vL : Value), k ≤ n ∧ i = .int .i64 k ∧ Now (fun _ => False) w wr (refParts h vL (.slice none 0 0) (.slice none 0 0) (List.replicate k zeros) [] (-1))) (fun i _ => n - (intOf i).toNat)
  case atStart => exact ⟨0, _, by omega, rfl, hN0⟩
  case round =>
    clear hN0
    obtain ⟨k, vL, hk, rfl, hN⟩ := hrel
    by_cases hlt : k < n
    · unfold refParts at hN
      rw [List.length_replicate] at hN
      have hrow := Now.row (pre := [_]) hN
      obtain ⟨A, c, rfl, _⟩ := own_slice hrow
      have hb := Now.blk (pre := []) hN
      have c0 : wr.cell? ⟨h, 0, none⟩ = some (.slice A k c) := hb.cell 0
      have f0 := hb.frozen 0
      have hm1 : k + 1 ≤ maxLen := by unfold maxLen; omega
      have hm2 : (k + 1) * 16 ≤ 140737488355328 := by omega
      have hks := Lib.hid (strs_succ k)
      clear hb
      go_wp2_with (at_builtin; refine wpList_app1 _ rfl _ _ 22 rfl 0 9 Try.underlying22 hj0 hy0 hy1 hy2 rfl hrow rfl rfl rfl hm1 hm2 (Nat.zero_le _) ?_; intro v2 w2 ho hg hn'; obtain ⟨A2, c2, rfl, _⟩ := own_slice ho; have hN2 := Now.grown (pre := [_]) hN ho hg (hn'.imp id fun h => ⟨_, by omega, h⟩); have hb2 := Now.blk (pre := []) hN2; have c0 : w2.cell? ⟨h, 0, none⟩ = some (.slice A k c) := hb2.cell 0; have f0 := hb2.frozen 0; have hN3 := Now.set_ (pre := []) hN2 0 (.slice A2 (k + 1) c2); have HN := Lib.hid hN3; clear hN hN2 hN3 hb2 hrow ho hg hn')
      go_roundw
      case rel =>
        refine ⟨k + 1, .slice A2 (k + 1) c2, by omega, by go_num, ?_⟩
        have := HN.out
        show Now _ w _ [_, Thing.row _ 1 _ (List.replicate (k + 1) zeros).length (strs (List.replicate (k + 1) zeros)), _, _]
        rw [hks.out, List.length_replicate]
        exact this
      case measure => simp [intOf]; omega
    · obtain rfl : k = n := by omega
      have HN := Lib.hid hN
      clear hN
      go_wp2
      go_ret2
      exact ⟨h, rfl, HN.out.refClose⟩
end Go.Proofs.Ytofoneapfokdjaa
