/- Contracts of the disk's methods, on: Flush, tear, Crash. -/
import Derived.Test.YtofoneapfokdjaaDisk
import Derived.Test.YtofoneapfokdjaaBytes
namespace Go.Proofs.Ytofoneapfokdjaa
set_option linter.unusedSimpArgs false
set_option linter.unusedVariables false
open Go.RowKit
attribute [local go_sem high] run_mx run_mn

theorem DskAt.at_ {w : World} {g b : Nat} {A : Option Addr} {n c : Nat} {d : Dsk} (h : DskAt w g b (.slice A n c) d) {k : Nat} {p : Int × ByteArray} (hp : d.pend[k]? = some p) :
    ∃ ad, A = some ad ∧ w.cell? (ad.add (k * 2)) = some (.int .i64 p.1) ∧ w.cell? ⟨(ad.add (k * 2)).block, (ad.add (k * 2)).off + 1, none⟩ = some (.string p.2) := by
  obtain ⟨A', c', e, hr⟩ := own_slice2 h.row
  cases e
  obtain ⟨hk, rfl⟩ := List.getElem?_eq_some_iff.1 hp
  obtain ⟨ad, rfl, hb, hc⟩ := hr.2 (by omega)
  have h0 : (d.pend.flatMap writeCells)[k * 2]? = some (.int .i64 d.pend[k].1) := by
    rw [getElem?_flatMap_row writeCells 2 (by omega) (fun _ => rfl), Nat.mul_div_cancel _ (by omega), Nat.mul_mod_left]
    simp [hk, writeCells]
  have h1 : (d.pend.flatMap writeCells)[k * 2 + 1]? = some (.string d.pend[k].2) := by
    rw [getElem?_flatMap_row writeCells 2 (by omega) (fun _ => rfl), Nat.add_comm, Nat.add_mul_div_right _ _ (by omega), Nat.add_mul_mod_self_right]
    simp [hk, writeCells]
  exact ⟨ad, rfl, hc _ _ h0, cell_off (by rw [add_of_add]; exact hc _ _ h1)⟩

def Dsk.doAll (d : Dsk) (l : List (Int × ByteArray)) : Dsk := l.foldl Dsk.do_ d
theorem Dsk.doAll_pend (l : List (Int × ByteArray)) : ∀ d : Dsk, (d.doAll l).pend = d.pend ∧ (d.doAll l).n = d.n ∧ (d.doAll l).lim = d.lim ∧ (d.doAll l).left = d.left := by
  induction l with
  | nil => intro d; exact ⟨rfl, rfl, rfl, rfl⟩
  | cons p l ih => intro d; exact ih (d.do_ p)
theorem Dsk.doAll_succ (d : Dsk) (l : List (Int × ByteArray)) (k : Nat) {p : Int × ByteArray} (hp : l[k]? = some p) : d.doAll (l.take (k + 1)) = (d.doAll (l.take k)).do_ p := by
  obtain ⟨hk, rfl⟩ := List.getElem?_eq_some_iff.1 hp
  rw [List.take_succ_eq_append_getElem hk]
  unfold Dsk.doAll
  rw [List.foldl_append]
  rfl
def Dsk.flush (d : Dsk) : Dsk := { d.use.doAll d.pend with pend := [] }

theorem Flush_dead (g b : Nat) (v : Value) (d : Dsk) (w : World) (h : DskAt w g b v d) (hl : d.lim = true) (hn : d.left < 1) :
    Calls Try.prog 13 #[.pointer (some ⟨g, 0, none⟩)] w fun e w' => e = .returned (.int .i64 9) ∧ w = w' := by
  have hu := use_no g b v d w h hl hn
  obtain ⟨c0, c1, c2, c3, c4⟩ := h.cells
  clear hl
  go_enter Try.func13, Try.ntmps13
  go_wp2_with (go_at_call 26; refine hu.mono ?_; rintro e w' ⟨rfl, rfl⟩)
  go_ret
  exact ⟨rfl, rfl⟩

set_option maxRecDepth 100000 in
theorem Flush_ok (g b : Nat) (v : Value) (d : Dsk) (w : World) (h : DskAt w g b v d) (hl : d.lim = false ∨ 1 ≤ d.left) (hp : d.pend.length ≤ 1000000000) :
    Calls Try.prog 13 #[.pointer (some ⟨g, 0, none⟩)] w fun e w' => e = .returned (.int .i64 0) ∧ DskAt w' g b (.slice none 0 0) d.flush ∧ Fr (foot g b v) w w' := by
  have hu := use_yes g b v d w h hl
  obtain ⟨c0, c1, c2, c3, c4⟩ := h.cells
  obtain ⟨A, c, rfl, _⟩ := own_slice2 h.row
  clear hl
  go_enter Try.func13, Try.ntmps13
  go_wp2_with (go_at_call 26; refine hu.mono ?_; rintro e w1 ⟨rfl, h1, hf1⟩; obtain ⟨e0, e1, e2, e3, e4⟩ := h1.cells; clear c0 c1 c2 c3 c4 hu)
  clear e0 e1 e2 e3 e4 h
  go_loopw [18] (fun i wr => ∃ k : Nat, k ≤ d.pend.length ∧ i = .int .i64 k ∧ DskAt wr g b (.slice A d.pend.length c) (d.use.doAll (d.pend.take k)) ∧ Fr (foot g b (.slice A d.pend.length c)) w wr) (fun i _ => d.pend.length - (intOf i).toNat)
  case atStart => exact ⟨0, by omega, rfl, h1, hf1⟩
  case round =>
    clear h1 hf1
    obtain ⟨k, hk, rfl, hD, hF⟩ := hrel
    by_cases hlt : k < d.pend.length
    · have hpk : (d.use.doAll (d.pend.take k)).pend[k]? = some d.pend[k] := by rw [(Dsk.doAll_pend _ _).1]; exact List.getElem?_eq_getElem hlt
      obtain ⟨ad, rfl, c0, c1⟩ := hD.at_ hpk
      have hs := Lib.hid (Dsk.doAll_succ d.use d.pend k (List.getElem?_eq_getElem hlt))
      generalize d.pend[k] = p at *
      clear hpk
      have hdo := do_any g b _ _ p.1 p.2 _ (hD.alloc (.cells #[.int .i64 p.1, .string p.2] 66))
      go_wp2_with (go_at_call 27; refine hdo.mono ?_; rintro e w2 ⟨rfl, hD2, hF2⟩; have hF3 := (hF.alloc (.cells #[.int .i64 p.1, .string p.2] 66)).trans hF2 (fun _ _ e => e); clear hdo hF2)
      go_roundw
      case rel => exact ⟨k + 1, by omega, by go_num, by rw [hs.out]; exact hD2, hF3⟩
      case measure => simp [intOf]; omega
    · obtain rfl : k = d.pend.length := by omega
      rw [List.take_length] at hD
      obtain ⟨c0, c1, c2, c3, c4⟩ := hD.cells
      have f4 := hD.free 4
      have hfin : DskAt (wr.setCell ⟨g, 4, none⟩ (.slice none 0 0)) g b (.slice none 0 0) d.flush :=
        ⟨hD.blk.set_ 4 _, hD.map.setCell (fun e => hD.gb e.symm) _, World.ownsRow_nil .., by simp [Value.ownBlock], hD.gb, by simp [Value.ownBlock]⟩
      have HF := Lib.hid hfin
      clear hfin hD
      go_wp2
      go_ret
      exact ⟨rfl, HF.out, hF.setCell (fun _ => .inl rfl) _⟩

/-- The first k bytes of s, and behind them those of r. -/
def mix (s r : ByteArray) (k : Nat) : ByteArray := ⟨(s.data.toList.take k ++ r.data.toList.drop k).toArray⟩
theorem extract_toList (s : ByteArray) (k : Nat) : (s.extract 0 k).data.toList = s.data.toList.take k := by simp
def cutAt (at_ : Int) : Nat := (min (max at_ 0) 128).toNat
def Dsk.tear (d : Dsk) (p : Int × ByteArray) (at_ : Int) : Dsk := d.do_ (p.1, mix p.2 (d.holds p.1) (cutAt at_))
theorem sizeOf_u8 (w : World) : (Go.sizeOf 5).run Try.prog w = .ok 1 w := by kernel_rfl

set_option maxRecDepth 100000 in
set_option maxHeartbeats 1600000 in
theorem tear_any (g b : Nat) (v : Value) (d : Dsk) (i : Int) (s : ByteArray) (at_ : Int) (w : World) (h : DskAt w g b v d) (hs : s.size = 128) (hh : (d.holds i).size = 128) :
    Calls Try.prog 28 #[.pointer (some ⟨g, 0, none⟩), .agg #[.int .i64 i, .string s], .int .i64 at_] w fun e w' => e = .returned (.tuple #[]) ∧
      DskAt w' g b v (d.tear (i, s) at_) ∧ Fr (foot g b v) w w' := by
  have h1 := h.alloc (.cells #[.int .i64 i, .string s] 66)
  have hb := Blk.new w 66 #[.int .i64 i, .string s]
  have b0 : (w.alloc (.cells #[.int .i64 i, .string s] 66)).cell? ⟨w.heap.size, 0, none⟩ = some (.int .i64 i) := hb.cell 0
  have b1 : (w.alloc (.cells #[.int .i64 i, .string s] 66)).cell? ⟨w.heap.size, 1, none⟩ = some (.string s) := hb.cell 1
  have hho := holds_any g b v d i _ h1
  have hk : mn (mx at_ 0) 128 = (cutAt at_ : Int) := by unfold cutAt; rw [mn_def, mx_def]; omega
  have hk' : min (max at_ 0) 128 = (cutAt at_ : Int) := by unfold cutAt; omega
  have hk2 : cutAt at_ ≤ 128 := by unfold cutAt; omega
  unfold Dsk.tear
  generalize cutAt at_ = k at *
  generalize hr : d.holds i = r at *
  have hks : (k : Int) ≤ s.size := by omega
  have hsl : s.data.toList.length = 128 := by rw [Array.length_toList]; exact hs
  have hrl : r.data.toList.length = 128 := by rw [Array.length_toList]; exact hh
  have hex : (s.extract 0 k).size = k := by
    have : (s.extract 0 k).data.toList.length = k := by rw [extract_toList, List.length_take, hsl]; omega
    rwa [Array.length_toList] at this
  have HEX := Lib.hid hex
  have HSL := Lib.hid hsl
  have HRL := Lib.hid hrl
  have HS := Lib.hid hs
  have HH := Lib.hid hh
  clear hex hsl hrl hs hh hr
  go_enter Try.func28, Try.ntmps28
  have hwb : w.heap.size < (w.alloc (.cells #[.int .i64 i, .string s] 66)).heap.size := by simp
  go_wp2_with (first | (go_at_call 30; refine hho.mono ?_; rintro e w1 ⟨rfl, hb1⟩; have hF1 := Fr.of_below (S := fun _ => False) hb1; have c0 := hF1.cell b0 (fun h => h); have c1 := hF1.cell b1 (fun h => h); have hD1 := h1.below hb1; have hD1lt := fun q hq => hD1.lt (k := q) hq; have hF2 := (((Fr.refl (foot g b v) w).alloc (.cells #[.int .i64 i, .string s] 66)).trans hF1 (fun _ _ h => h.elim)); have hw1 := Nat.lt_of_lt_of_le hwb hb1.size; clear b0 b1 hho hF1 hb1 h1 hb h hwb) | (refine wpList_toBytes (o := ⟨some 11, _, _, _, _, _⟩) _ rfl rfl Try.underlying9 Try.underlying23 Try.underlying5 rfl ?_; intro cap w2 hB2 hg2 hz2; have d0 := hg2.cell c0 (fun e => by cases e); have d1 := hg2.cell c1 (fun e => by cases e); have hD2 := hD1.keep (S := fun _ => False) (Fr.of_grown hg2 (fun k e => by cases e)) (fun _ _ h => h); have hF3 := hF2.trans (Fr.of_grown (S := fun _ => False) hg2 (fun k e => by cases e)) (fun _ _ h => h.elim); clear c0 c1 hD1 hF2 hg2) | (refine wpList_copyBytes (o := ⟨some 19, _, _, _, _, _⟩) _ rfl rfl Try.underlying23 sizeOf_u8 hB2 rfl rfl (by rw [HEX.out, HH.out]; exact hk2) (by rw [HEX.out, HRL.out]; exact hk2) ?_; intro w3 hB3 hg3 hz3; have e0 := hg3.cell d0 (fun e => by simp at e; omega); have hD3 := hD2.keep (S := fun q => q = w1.heap.size) (Fr.of_grown hg3 (fun k e => by cases e; rfl)) (fun q hq e => by have := hD1lt q hq; omega); have hF4 := hF3.trans (Fr.of_grown (S := fun q => q = w1.heap.size) hg3 (fun k e => by cases e; rfl)) (fun q hq e => by omega); have hB4 : ByteBlk w3 w1.heap.size (s.data.toList.take k ++ r.data.toList.drop k) := (by have := hB3; rw [extract_toList, HEX.out] at this; exact this); have hdo := do_any g b v d i (mix s r k) w3 hD3; clear d0 d1 hD2 hF3 hg3 hB2 hB3) | (refine wpList_toString (o := ⟨some 24, _, _, _, _, _⟩) _ rfl rfl Try.underlying23 Try.underlying5 Try.underlying9 hB4 (by rw [HH.out, List.length_append, List.length_take, List.length_drop, HSL.out, HRL.out]; omega) (t := mix s r k) rfl rfl ?_) | (go_at_call 27; refine hdo.mono ?_; rintro e w4 ⟨rfl, hD4, hF5⟩))
  go_end0
  exact ⟨rfl, hD4, hF4.trans hF5 (fun _ _ h => h)⟩
end Go.Proofs.Ytofoneapfokdjaa
