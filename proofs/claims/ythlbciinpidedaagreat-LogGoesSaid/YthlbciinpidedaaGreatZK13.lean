/- What the laws of this seat lean on, part 13. -/
import Derived.RangeFuncNested
import Derived.RangeFuncBound
import Derived.RangeFuncCalls
import Derived.RangeFuncLeaves
import Derived.RangeFuncBox
import Derived.Shelf.Abstract
import Derived.Shelf.RegionOpen
import Derived.WalkKit
import Derived.OwnWalkIn
import Derived.TacticsInMore
import Derived.LoopNIn
import Derived.LoopIn
import Derived.Test.YthlbciinpidedaaGreatZK12
import Derived.Test.YthlbciinpidedaaGreatZK2
import Derived.Test.YthlbciinpidedaaGreatProg
import Derived.Test.YthlbciinpidedaaGreatZK1
import Derived.Lib.Hide
import Derived.WalkLawsBesides
import Derived.WalkSpells
/- slices.Backward over pending writes: the iterator's contract. -/
namespace Go.Proofs.YthlbciinpidedaaGreat
set_option linter.unusedSimpArgs false
set_option linter.unusedVariables false
set_option maxRecDepth 100000
open Go.RowKit Go.Shelf
attribute [local go_sem] Oper.semAt_some

/-- What has come when k rounds are over: the last k writes, the last one first, each with its place. -/
def backTo (zs : List (Int × ByteArray)) (k : Nat) : List (Nat × Int × ByteArray) := (List.range k).map fun j => (zs.length - 1 - j, zs[zs.length - 1 - j]?.getD (0, ByteArray.empty))
theorem backTo_succ (zs : List (Int × ByteArray)) (k : Nat) : backTo zs (k + 1) = backTo zs k ++ [(zs.length - 1 - k, zs[zs.length - 1 - k]?.getD (0, ByteArray.empty))] := by simp [backTo, List.range_succ]
theorem backTo_length (zs : List (Int × ByteArray)) (k : Nat) : (backTo zs k).length = k := by simp [backTo]

abbrev backEnc (x : Nat × Int × ByteArray) : Array Value := #[.int .i64 (x.1 : Int), .agg #[.int .i64 x.2.1, .string x.2.2]]

set_option maxRecDepth 100000 in
set_option maxHeartbeats 2000000 in
theorem back1_in (F : Fence) (n : Nat) (hf : F.fn 121) (hro : F.round = none) (hn : 1 ≤ n) (l Bs n₀ : Nat) (A : Option Addr) (cap : Nat) (zs : List (Int × ByteArray)) (hlen : zs.length ≤ 1000000000) (J Jx : List (Nat × Int × ByteArray) → World → Prop)
    (hY : ∀ pre x W, J pre W → pre.length < zs.length → YieldAt F (n - 1) Tryz.prog l (backEnc x) W fun e W' =>
      (e = .returned (.bool true) ∧ J (pre ++ [x]) W' ∧ Below n₀ W W') ∨ (e = .returned (.bool false) ∧ Jx (pre ++ [x]) W'))
    (W : World) (hBs : W.cell? ⟨Bs, 0, none⟩ = some (.slice A zs.length cap)) (hBn : Bs < n₀)
    (hc : ∀ j, j < zs.length → ∃ ad, A = some ad ∧ (ad.add (j * 2)).block < n₀ ∧ W.cell? (ad.add (j * 2)) = some (.int .i64 (zs[j]?.getD (0, ByteArray.empty)).1) ∧ W.cell? ⟨(ad.add (j * 2)).block, (ad.add (j * 2)).off + 1, none⟩ = some (.string (zs[j]?.getD (0, ByteArray.empty)).2)) (h0 : J [] W) :
    CallsIn F n Tryz.prog 121 #[.func (.yield l) #[] #[], .pointer (some ⟨Bs, 0, none⟩)] W fun e W' => (∃ v, e = .returned v) ∧
      ((∃ ys, ys = backTo zs zs.length ∧ J ys W') ∨ (∃ pre, (∃ k, k ≤ zs.length ∧ pre = backTo zs k) ∧ Jx pre W')) := by
  refine callsIn_of_wp Tryz.func121 rfl hf ?_ hro
  simp only [Tryz.ntmps121, List.size_toArray, List.length_cons, List.length_nil, Nat.reduceAdd, Nat.reduceSub, Array.replicate_succ, Array.replicate_zero, List.push_toArray, List.append_toArray, List.nil_append, List.cons_append]
  gi_wp2
  gi_loopw [3] (fun i wr => ∃ k : Nat, k ≤ zs.length ∧ i = .int .i64 ((zs.length : Int) - 1 - k) ∧ J (backTo zs k) wr ∧ Below n₀ W wr)
    (fun i _ => (intOf i + 1).toNat)
  case atStart => exact ⟨0, Nat.zero_le _, by simp, h0, Below.refl _ _⟩
  case round =>
    obtain ⟨k, hk, rfl, hJs, hnx⟩ := hrel
    have hBs' : wr.cell? ⟨Bs, 0, none⟩ = some (.slice A zs.length cap) := (hnx.cell (p := ⟨Bs, 0, none⟩) hBn).trans hBs
    by_cases hlt : k < zs.length
    · obtain ⟨ad, rfl, hb, c0, c1⟩ := hc (zs.length - 1 - k) (by omega)
      have d0 := (hnx.cell (p := ad.add ((zs.length - 1 - k) * 2)) hb).trans c0
      have d1 := (hnx.cell (p := ⟨(ad.add ((zs.length - 1 - k) * 2)).block, (ad.add ((zs.length - 1 - k) * 2)).off + 1, none⟩) hb).trans c1
      obtain ⟨fn, tmps, assign, body, hy, hR⟩ := hY _ (zs.length - 1 - k, zs[zs.length - 1 - k]?.getD (0, ByteArray.empty)) wr hJs (by rw [backTo_length]; exact hlt)
      obtain ⟨q, hq⟩ : ∃ q : Nat, zs.length - 1 - k = q := ⟨_, rfl⟩
      have hqi : (zs.length : Int) - 1 - k = (q : Int) := by omega
      have hqs := backTo_succ zs k
      rw [hq] at d0 d1 hy hR hqs
      rw [hqi]
      generalize zs[q]?.getD (0, ByteArray.empty) = p at *
      have hq1 : (q : Int) < (zs.length : Int) := by omega
      have HQ := Lib.hid hqi
      have HS := Lib.hid hqs
      have HJ := Lib.hid hc
      clear hq hqi hqs hc c0 c1
      gi_wp2
      refine hR.mono ?_
      rintro e W3 (⟨rfl, hJ3, hk3⟩ | ⟨rfl, hJx3⟩)
      · gi_wp2
        go_roundw
        case rel => exact ⟨k + 1, by omega, by have := HQ.out; congr 1 <;> omega, by rw [HS.out]; exact hJ3, hnx.trans hk3⟩
        case measure => have := HQ.out; simp [intOf]
      · gi_wp2
        refine bodyPost_ret (results_none rfl _ _ _) rfl ?_
        exact ⟨⟨_, rfl⟩, .inr ⟨_, ⟨k + 1, by omega, HS.out.symm⟩, hJx3⟩⟩
    · obtain rfl : k = zs.length := by omega
      have hneg : (zs.length : Int) - 1 - (zs.length : Nat) = -1 := by omega
      rw [hneg]
      clear hneg
      gi_wp2
      go_end0
      exact ⟨⟨_, rfl⟩, .inl ⟨_, rfl, hJs⟩⟩

set_option maxHeartbeats 1000000 in
theorem back_in (F : Fence) (n : Nat) (hf : F.fn 83) (hro : F.round = none) (a : Option Addr) (len cap : Nat) (w : World) :
    CallsIn F n Tryz.prog 83 #[.slice a len cap] w fun e w' => e = .returned (.func (.func 121) #[] #[.pointer (some ⟨w.heap.size, 0, none⟩)]) ∧ w.alloc (.cells #[.slice a len cap] 121) = w' := by
  refine callsIn_of_wp Tryz.func83 rfl hf ?_ hro
  simp only [Tryz.ntmps83, List.size_toArray, List.length_cons, List.length_nil, Nat.reduceAdd, Nat.reduceSub, Array.replicate_succ, Array.replicate_zero, List.push_toArray, List.append_toArray, List.nil_append, List.cons_append]
  gi_wp2
  go_ret
  exact ⟨rfl, rfl⟩

/-- slices.Backward's value stops where its loop's body says so: all writes, the last one first; or the last k of them. -/
theorem back_stops (F : Fence) (n : Nat) (hf : F.fn 121) (hro : F.round = none) (hn : 1 ≤ n) (Bs n₀ : Nat) (A : Option Addr) (cap : Nat) (zs : List (Int × ByteArray)) (hlen : zs.length ≤ 1000000000) (w : World) (hBs : Bs < n₀) (hn₀ : n₀ ≤ w.heap.size)
    (hb : w.cell? ⟨Bs, 0, none⟩ = some (.slice A zs.length cap))
    (hc : ∀ j, j < zs.length → ∃ ad, A = some ad ∧ (ad.add (j * 2)).block < n₀ ∧ w.cell? (ad.add (j * 2)) = some (.int .i64 (zs[j]?.getD (0, ByteArray.empty)).1) ∧ w.cell? ⟨(ad.add (j * 2)).block, (ad.add (j * 2)).off + 1, none⟩ = some (.string (zs[j]?.getD (0, ByteArray.empty)).2)) :
    SeqStopsK F n Tryz.prog 121 #[.pointer (some ⟨Bs, 0, none⟩)] backEnc (Below n₀) (fun ys => ys = backTo zs zs.length) (fun pre => ∃ k, k ≤ zs.length ∧ pre = backTo zs k) zs.length w := fun l J Jx W hW _ _ hY h0 => by
  have hW' := hW.mono hn₀
  exact back1_in F n hf hro hn l Bs n₀ A cap zs hlen J Jx hY W ((hW'.cell (p := ⟨Bs, 0, none⟩) hBs).trans hb) hBs (fun j hj => by
    obtain ⟨ad, e, h1, h2, h3⟩ := hc j hj
    exact ⟨ad, e, h1, (hW'.cell h1).trans h2, (hW'.cell (p := ⟨(ad.add (j * 2)).block, (ad.add (j * 2)).off + 1, none⟩) h1).trans h3⟩) h0
end Go.Proofs.YthlbciinpidedaaGreat
/- Contracts of the disk's methods, on: Flush, tear, Crash. -/
namespace Go.Proofs.YthlbciinpidedaaGreat
set_option linter.unusedSimpArgs false
set_option linter.unusedVariables false
set_option maxRecDepth 100000
open Go.RowKit
attribute [local go_sem high] run_mx run_mn

theorem DskAt.at_ {w : World} {g b : Nat} {A : Option Addr} {n c : Nat} {d : Dsk} (h : DskAt w g b (.slice A n c) d) {k : Nat} {p : Int × ByteArray} (hp : d.pend[k]? = some p) :
    ∃ ad, A = some ad ∧ w.cell? (ad.add (k * 2)) = some (.int .i64 p.1) ∧ w.cell? ⟨(ad.add (k * 2)).block, (ad.add (k * 2)).off + 1, none⟩ = some (.string p.2) := by
  obtain ⟨A', c', e, hr⟩ := own_slice2 h.row
  cases e
  obtain ⟨hk, rfl⟩ := List.getElem?_eq_some_iff.1 hp
  obtain ⟨ad, rfl, hb, hc⟩ := hr.2 (by omega)
  have h0 : (d.pend.flatMap writeCells)[k * 2]? = some (.int .i64 d.pend[k].1) := by
    rw [getElem?_flatMap_row writeCells 2 (by omega) (fun _ => rfl), Nat.mul_div_cancel _ (by omega), Nat.mul_mod_left]
    simp [hk, writeCells]
  have h1 : (d.pend.flatMap writeCells)[k * 2 + 1]? = some (.string d.pend[k].2) := by
    rw [getElem?_flatMap_row writeCells 2 (by omega) (fun _ => rfl), Nat.add_comm, Nat.add_mul_div_right _ _ (by omega), Nat.add_mul_mod_self_right]
    simp [hk, writeCells]
  exact ⟨ad, rfl, hc _ _ h0, cell_off (by rw [add_of_add]; exact hc _ _ h1)⟩

def Dsk.doAll (d : Dsk) (l : List (Int × ByteArray)) : Dsk := l.foldl Dsk.do_ d
theorem Dsk.doAll_pend (l : List (Int × ByteArray)) : ∀ d : Dsk, (d.doAll l).pend = d.pend ∧ (d.doAll l).n = d.n ∧ (d.doAll l).lim = d.lim ∧ (d.doAll l).left = d.left := by
  induction l with
  | nil => intro d; exact ⟨rfl, rfl, rfl, rfl⟩
  | cons p l ih => intro d; exact ih (d.do_ p)
theorem Dsk.doAll_succ (d : Dsk) (l : List (Int × ByteArray)) (k : Nat) {p : Int × ByteArray} (hp : l[k]? = some p) : d.doAll (l.take (k + 1)) = (d.doAll (l.take k)).do_ p := by
  obtain ⟨hk, rfl⟩ := List.getElem?_eq_some_iff.1 hp
  rw [List.take_succ_eq_append_getElem hk]
  unfold Dsk.doAll
  rw [List.foldl_append]
  rfl
def Dsk.flush (d : Dsk) : Dsk := { d.use.doAll d.pend with pend := [] }

theorem Flush_dead (g b : Nat) (v : Value) (d : Dsk) (w : World) (h : DskAt w g b v d) (hl : d.lim = true) (hn : d.left < 1) :
    Calls Tryz.prog 85 #[.pointer (some ⟨g, 0, none⟩)] w fun e w' => e = .returned (.int .i64 9) ∧ w = w' := by
  have hu := use_no g b v d w h hl hn
  obtain ⟨c0, c1, c2, c3, c4⟩ := h.cells
  clear hl
  go_enter Tryz.func85, Tryz.ntmps85
  go_wp2_with (go_at_call 123; refine hu.mono ?_; rintro e w' ⟨rfl, rfl⟩)
  go_ret
  exact ⟨rfl, rfl⟩

set_option maxRecDepth 100000 in
theorem Flush_ok (g b : Nat) (v : Value) (d : Dsk) (w : World) (h : DskAt w g b v d) (hl : d.lim = false ∨ 1 ≤ d.left) (hp : d.pend.length ≤ 1000000000) :
    Calls Tryz.prog 85 #[.pointer (some ⟨g, 0, none⟩)] w fun e w' => e = .returned (.int .i64 0) ∧ DskAt w' g b (.slice none 0 0) d.flush ∧ Fr (foot g b v) w w' := by
  have hu := use_yes g b v d w h hl
  obtain ⟨c0, c1, c2, c3, c4⟩ := h.cells
  obtain ⟨A, c, rfl, _⟩ := own_slice2 h.row
  clear hl
  go_enter Tryz.func85, Tryz.ntmps85
  go_wp2_with (go_at_call 123; refine hu.mono ?_; rintro e w1 ⟨rfl, h1, hf1⟩; obtain ⟨e0, e1, e2, e3, e4⟩ := h1.cells; clear c0 c1 c2 c3 c4 hu)
  clear e0 e1 e2 e3 e4 h
  go_loopw [18] (fun i wr => ∃ k : Nat, k ≤ d.pend.length ∧ i = .int .i64 k ∧ DskAt wr g b (.slice A d.pend.length c) (d.use.doAll (d.pend.take k)) ∧ Fr (foot g b (.slice A d.pend.length c)) w wr) (fun i _ => d.pend.length - (intOf i).toNat)
  case atStart => exact ⟨0, by omega, rfl, h1, hf1⟩
  case round =>
    clear h1 hf1
    obtain ⟨k, hk, rfl, hD, hF⟩ := hrel
    by_cases hlt : k < d.pend.length
    · have hpk : (d.use.doAll (d.pend.take k)).pend[k]? = some d.pend[k] := by rw [(Dsk.doAll_pend _ _).1]; exact List.getElem?_eq_getElem hlt
      obtain ⟨ad, rfl, c0, c1⟩ := hD.at_ hpk
      have hs := Lib.hid (Dsk.doAll_succ d.use d.pend k (List.getElem?_eq_getElem hlt))
      generalize d.pend[k] = p at *
      clear hpk
      have hdo := do_any g b _ _ p.1 p.2 _ (hD.alloc (.cells #[.int .i64 p.1, .string p.2] 151))
      go_wp2_with (go_at_call 88; refine hdo.mono ?_; rintro e w2 ⟨rfl, hD2, hF2⟩; have hF3 := (hF.alloc (.cells #[.int .i64 p.1, .string p.2] 151)).trans hF2 (fun _ _ e => e); clear hdo hF2)
      go_roundw
      case rel => exact ⟨k + 1, by omega, by go_num, by rw [hs.out]; exact hD2, hF3⟩
      case measure => simp [intOf]; omega
    · obtain rfl : k = d.pend.length := by omega
      rw [List.take_length] at hD
      obtain ⟨c0, c1, c2, c3, c4⟩ := hD.cells
      have f4 := hD.free 4
      have hfin : DskAt (wr.setCell ⟨g, 4, none⟩ (.slice none 0 0)) g b (.slice none 0 0) d.flush :=
        ⟨hD.blk.set_ 4 _, hD.map.setCell (fun e => hD.gb e.symm) _, World.ownsRow_nil .., by simp [Value.ownBlock], hD.gb, by simp [Value.ownBlock]⟩
      have HF := Lib.hid hfin
      clear hfin hD
      go_wp2
      go_ret
      exact ⟨rfl, HF.out, hF.setCell (fun _ => .inl rfl) _⟩

/-- The first k bytes of s, and behind them those of r. -/
def mix (s r : ByteArray) (k : Nat) : ByteArray := ⟨(s.data.toList.take k ++ r.data.toList.drop k).toArray⟩
theorem extract_toList (s : ByteArray) (k : Nat) : (s.extract 0 k).data.toList = s.data.toList.take k := by simp
def cutAt (at_ : Int) : Nat := (min (max at_ 0) 128).toNat
def Dsk.tear (d : Dsk) (p : Int × ByteArray) (at_ : Int) : Dsk := d.do_ (p.1, mix p.2 (d.holds p.1) (cutAt at_))
theorem sizeOf_u8d (w : World) : (Go.sizeOf 5).run Tryz.prog w = .ok 1 w := by kernel_rfl

set_option maxRecDepth 100000 in
set_option maxHeartbeats 1600000 in
theorem tear_any (g b : Nat) (v : Value) (d : Dsk) (i : Int) (s : ByteArray) (at_ : Int) (w : World) (h : DskAt w g b v d) (hs : s.size = 128) (hh : (d.holds i).size = 128) :
    Calls Tryz.prog 89 #[.pointer (some ⟨g, 0, none⟩), .agg #[.int .i64 i, .string s], .int .i64 at_] w fun e w' => e = .returned (.tuple #[]) ∧
      DskAt w' g b v (d.tear (i, s) at_) ∧ Fr (foot g b v) w w' := by
  have h1 := h.alloc (.cells #[.int .i64 i, .string s] 151)
  have hb := Blk.new w 151 #[.int .i64 i, .string s]
  have b0 : (w.alloc (.cells #[.int .i64 i, .string s] 151)).cell? ⟨w.heap.size, 0, none⟩ = some (.int .i64 i) := hb.cell 0
  have b1 : (w.alloc (.cells #[.int .i64 i, .string s] 151)).cell? ⟨w.heap.size, 1, none⟩ = some (.string s) := hb.cell 1
  have hho := holds_any g b v d i _ h1
  have hk : mn (mx at_ 0) 128 = (cutAt at_ : Int) := by unfold cutAt; rw [mn_def, mx_def]; omega
  have hk' : min (max at_ 0) 128 = (cutAt at_ : Int) := by unfold cutAt; omega
  have hk2 : cutAt at_ ≤ 128 := by unfold cutAt; omega
  unfold Dsk.tear
  generalize cutAt at_ = k at *
  generalize hr : d.holds i = r at *
  have hks : (k : Int) ≤ s.size := by omega
  have hsl : s.data.toList.length = 128 := by rw [Array.length_toList]; exact hs
  have hrl : r.data.toList.length = 128 := by rw [Array.length_toList]; exact hh
  have hex : (s.extract 0 k).size = k := by
    have : (s.extract 0 k).data.toList.length = k := by rw [extract_toList, List.length_take, hsl]; omega
    rwa [Array.length_toList] at this
  have HEX := Lib.hid hex
  have HSL := Lib.hid hsl
  have HRL := Lib.hid hrl
  have HS := Lib.hid hs
  have HH := Lib.hid hh
  clear hex hsl hrl hs hh hr
  go_enter Tryz.func89, Tryz.ntmps89
  have hwb : w.heap.size < (w.alloc (.cells #[.int .i64 i, .string s] 151)).heap.size := by simp
  go_wp2_with (first | (go_at_call 84; refine hho.mono ?_; rintro e w1 ⟨rfl, hb1⟩; have hF1 := Fr.of_below (S := fun _ => False) hb1; have c0 := hF1.cell b0 (fun h => h); have c1 := hF1.cell b1 (fun h => h); have hD1 := h1.below hb1; have hD1lt := fun q hq => hD1.lt (k := q) hq; have hF2 := (((Fr.refl (foot g b v) w).alloc (.cells #[.int .i64 i, .string s] 151)).trans hF1 (fun _ _ h => h.elim)); have hw1 := Nat.lt_of_lt_of_le hwb hb1.size; clear b0 b1 hho hF1 hb1 h1 hb h hwb) | (refine wpList_toBytes (o := ⟨some 11, _, _, _, _, _⟩) _ rfl rfl Tryz.underlying9 Tryz.underlying50 Tryz.underlying5 rfl ?_; intro cap w2 hB2 hg2 hz2; have d0 := hg2.cell c0 (fun e => by cases e); have d1 := hg2.cell c1 (fun e => by cases e); have hD2 := hD1.keep (S := fun _ => False) (Fr.of_grown hg2 (fun k e => by cases e)) (fun _ _ h => h); have hF3 := hF2.trans (Fr.of_grown (S := fun _ => False) hg2 (fun k e => by cases e)) (fun _ _ h => h.elim); clear c0 c1 hD1 hF2 hg2) | (refine wpList_copyBytes (o := ⟨some 19, _, _, _, _, _⟩) _ rfl rfl Tryz.underlying50 sizeOf_u8d hB2 rfl rfl (by rw [HEX.out, HH.out]; exact hk2) (by rw [HEX.out, HRL.out]; exact hk2) ?_; intro w3 hB3 hg3 hz3; have e0 := hg3.cell d0 (fun e => by simp at e; omega); have hD3 := hD2.keep (S := fun q => q = w1.heap.size) (Fr.of_grown hg3 (fun k e => by cases e; rfl)) (fun q hq e => by have := hD1lt q hq; omega); have hF4 := hF3.trans (Fr.of_grown (S := fun q => q = w1.heap.size) hg3 (fun k e => by cases e; rfl)) (fun q hq e => by omega); have hB4 : ByteBlk w3 w1.heap.size (s.data.toList.take k ++ r.data.toList.drop k) := (by have := hB3; rw [extract_toList, HEX.out] at this; exact this); have hdo := do_any g b v d i (mix s r k) w3 hD3; clear d0 d1 hD2 hF3 hg3 hB2 hB3) | (refine wpList_toString (o := ⟨some 24, _, _, _, _, _⟩) _ rfl rfl Tryz.underlying50 Tryz.underlying5 Tryz.underlying9 hB4 (by rw [HH.out, List.length_append, List.length_take, List.length_drop, HSL.out, HRL.out]; omega) (t := mix s r k) rfl rfl ?_) | (go_at_call 88; refine hdo.mono ?_; rintro e w4 ⟨rfl, hD4, hF5⟩))
  go_end0
  exact ⟨rfl, hD4, hF4.trans hF5 (fun _ _ h => h)⟩
end Go.Proofs.YthlbciinpidedaaGreat
/- Contracts of the disk's methods, on: Crash. -/
namespace Go.Proofs.YthlbciinpidedaaGreat
set_option linter.unusedSimpArgs false
set_option linter.unusedVariables false
set_option maxRecDepth 100000
open Go.RowKit
attribute [local go_sem high] run_mx run_mn

/-- All that is held or pending is of a sector's size. -/
def Dsk.Good (d : Dsk) : Prop := (∀ p ∈ d.pend, p.2.size = 128) ∧ ∀ i s, d.held i = some s → s.size = 128
theorem zeros_size : zeros.size = 128 := by show (Array.replicate 128 (0 : UInt8)).size = 128; rw [Array.size_replicate]
theorem Dsk.Good.holds {d : Dsk} (h : d.Good) (i : Int) : (d.holds i).size = 128 := by
  unfold Dsk.holds
  cases hs : d.held i with
  | none => exact zeros_size
  | some s => exact h.2 i s hs
theorem mix_size (s r : ByteArray) (k : Nat) (hs : s.size = 128) (hr : r.size = 128) (hk : k ≤ 128) : (mix s r k).size = 128 := by
  have hsl : s.data.toList.length = 128 := by rw [Array.length_toList]; exact hs
  have hrl : r.data.toList.length = 128 := by rw [Array.length_toList]; exact hr
  show (s.data.toList.take k ++ r.data.toList.drop k).toArray.size = 128
  rw [List.size_toArray, List.length_append, List.length_take, List.length_drop, hsl, hrl]
  omega
theorem Dsk.Good.do_ {d : Dsk} (h : d.Good) {p : Int × ByteArray} (hp : p.2.size = 128) : (d.do_ p).Good := by
  refine ⟨h.1, fun i s hs => ?_⟩
  unfold Dsk.do_ upd at hs
  simp only at hs
  split at hs
  · cases hs; exact hp
  · exact h.2 i s hs
theorem cutAt_le (a : Int) : cutAt a ≤ 128 := by unfold cutAt; omega
theorem Dsk.Good.tear {d : Dsk} (h : d.Good) {p : Int × ByteArray} (hp : p.2.size = 128) (a : Int) : (d.tear p a).Good := Good.do_ h (mix_size _ _ _ hp (h.holds _) (cutAt_le a))
theorem Dsk.Good.use {d : Dsk} (h : d.Good) : d.use.Good := h
theorem Dsk.Good.write {d : Dsk} (h : d.Good) {i : Int} {s : ByteArray} (hs : s.size = 128) : (d.write i s).Good :=
  ⟨fun p hp => by
    rcases List.mem_append.1 hp with hp | hp
    · exact h.1 p hp
    · simp at hp; subst hp; exact hs, h.2⟩

/-- What a crash does with the write at place k. -/
def Dsk.crash1 (d : Dsk) (keep : List Bool) (torn at_ : Int) (k : Nat) (p : Int × ByteArray) : Dsk :=
  if keep[k]? = some true then d.do_ p else if (k : Int) = torn then d.tear p at_ else d
/-- .. and with the first k writes of a list. -/
def Dsk.crashTo (d : Dsk) (keep : List Bool) (torn at_ : Int) (l : List (Int × ByteArray)) : Nat → Dsk
  | 0 => d
  | k + 1 => match l[k]? with
    | some p => (d.crashTo keep torn at_ l k).crash1 keep torn at_ k p
    | none => d.crashTo keep torn at_ l k
def Dsk.crash (d : Dsk) (keep : List Bool) (torn at_ : Int) : Dsk := { d.crashTo keep torn at_ d.pend d.pend.length with lim := false, left := 0, pend := [] }

theorem Dsk.crash1_kept (d : Dsk) (keep : List Bool) (torn at_ : Int) (k : Nat) (p : Int × ByteArray) : (d.crash1 keep torn at_ k p).pend = d.pend ∧ (d.crash1 keep torn at_ k p).n = d.n := by
  unfold crash1; split
  · exact ⟨rfl, rfl⟩
  · split <;> exact ⟨rfl, rfl⟩
theorem Dsk.crashTo_kept (d : Dsk) (keep : List Bool) (torn at_ : Int) (l : List (Int × ByteArray)) (k : Nat) : (d.crashTo keep torn at_ l k).pend = d.pend ∧ (d.crashTo keep torn at_ l k).n = d.n := by
  induction k with
  | zero => exact ⟨rfl, rfl⟩
  | succ k ih =>
    unfold crashTo
    split
    · have := crash1_kept (d.crashTo keep torn at_ l k) keep torn at_ k ‹_›
      exact ⟨this.1.trans ih.1, this.2.trans ih.2⟩
    · exact ih
theorem Dsk.Good.crashTo {d : Dsk} (h : d.Good) (keep : List Bool) (torn at_ : Int) (l : List (Int × ByteArray)) (hl : ∀ p ∈ l, p.2.size = 128) (k : Nat) : (d.crashTo keep torn at_ l k).Good := by
  induction k with
  | zero => exact h
  | succ k ih =>
    unfold Dsk.crashTo
    split
    · rename_i p hp
      have hps := hl p (List.mem_of_getElem? hp)
      unfold Dsk.crash1
      split
      · exact Good.do_ ih hps
      · split
        · exact Good.tear ih hps _
        · exact ih
    · exact ih
theorem Dsk.Good.crash {d : Dsk} (h : d.Good) (keep : List Bool) (torn at_ : Int) : (d.crash keep torn at_).Good :=
  ⟨by simp [Dsk.crash], (h.crashTo keep torn at_ d.pend h.1 _).2⟩

/-- A slice of bools that reads as a list, apart from some blocks. -/
def Bools (w : World) (S : Nat → Prop) (A : Option Addr) (n : Nat) (bs : List Bool) : Prop := bs.length = n ∧ ∀ k, k < n → ∃ ad, A = some ad ∧ ¬ S (ad.add k).block ∧ w.cell? (ad.add k) = some (.bool (bs[k]?.getD false))
theorem Bools.keep {w w' : World} {S T : Nat → Prop} {A : Option Addr} {n : Nat} {bs : List Bool} (h : Bools w S A n bs) (hf : Fr T w w') (hs : ∀ k, T k → S k) : Bools w' S A n bs :=
  ⟨h.1, fun k hk => by
    obtain ⟨ad, e, hn, hc⟩ := h.2 k hk
    exact ⟨ad, e, hn, hf.cell hc (fun ht => hn (hs _ ht))⟩⟩

set_option maxRecDepth 100000 in
set_option maxHeartbeats 1600000 in
theorem Crash_any (g b : Nat) (v : Value) (d : Dsk) (A : Option Addr) (n c : Nat) (bs : List Bool) (torn at_ : Int) (w : World) (h : DskAt w g b v d) (hG : d.Good) (hp : d.pend.length ≤ 1000000000) (hk : Bools w (foot g b v) A n bs) :
    Calls Tryz.prog 45 #[.pointer (some ⟨g, 0, none⟩), .slice A n c, .int .i64 torn, .int .i64 at_] w fun e w' => e = .returned (.tuple #[]) ∧
      DskAt w' g b (.slice none 0 0) (d.crash bs torn at_) ∧ Fr (foot g b v) w w' := by
  obtain ⟨c0, c1, c2, c3, c4⟩ := h.cells
  obtain ⟨P, pc, rfl, _⟩ := own_slice2 h.row
  go_enter Tryz.func45, Tryz.ntmps45
  go_wp2
  go_loopw [15] (fun i wr => ∃ k : Nat, k ≤ d.pend.length ∧ i = .int .i64 k ∧ DskAt wr g b (.slice P d.pend.length pc) (d.crashTo bs torn at_ d.pend k) ∧ Fr (foot g b (.slice P d.pend.length pc)) w wr) (fun i _ => d.pend.length - (intOf i).toNat)
  case atStart => exact ⟨0, by omega, rfl, h, Fr.refl _ _⟩
  case round =>
    clear c0 c1 c2 c3 c4 h
    obtain ⟨k, hkl, rfl, hD, hF⟩ := hrel
    by_cases hlt : k < d.pend.length
    · have hpk : (d.crashTo bs torn at_ d.pend k).pend[k]? = some d.pend[k] := by rw [(Dsk.crashTo_kept _ _ _ _ _ _).1]; exact List.getElem?_eq_getElem hlt
      obtain ⟨ad, rfl, c0, c1⟩ := hD.at_ hpk
      have hstep : d.crashTo bs torn at_ d.pend (k + 1) = (d.crashTo bs torn at_ d.pend k).crash1 bs torn at_ k d.pend[k] := by
        rw [Dsk.crashTo, List.getElem?_eq_getElem hlt]
      have hps : d.pend[k].2.size = 128 := hG.1 _ (List.getElem_mem _)
      have hGk := hG.crashTo bs torn at_ d.pend hG.1 k
      have hdo := fun (p : Int × ByteArray) => do_any g b _ _ p.1 p.2 _ (hD.alloc (.cells #[.int .i64 p.1, .string p.2] 151))
      have htr := fun (p : Int × ByteArray) hp => tear_any g b _ _ p.1 p.2 at_ _ (hD.alloc (.cells #[.int .i64 p.1, .string p.2] 151)) hp (hGk.holds _)
      have hD' := hD
      have hB := hk.keep hF (fun _ h => h)
      clear hpk hG
      generalize d.pend[k] = p at *
      replace hdo := hdo p
      replace htr := htr p hps
      clear hps hGk
      generalize d.crashTo bs torn at_ d.pend k = dk at *
      have hcase : (k < n ∧ ∃ ad : Addr, A = some ad ∧ wr.cell? (ad.add k) = some (.bool true) ∧ bs[k]? = some true) ∨ (k < n ∧ ∃ ad : Addr, A = some ad ∧ wr.cell? (ad.add k) = some (.bool false) ∧ bs[k]? ≠ some true) ∨ (¬ k < n ∧ bs[k]? ≠ some true) := by
        by_cases hkn : k < n
        · obtain ⟨ad2, e, _, hc⟩ := hB.2 k hkn
          have hl : k < bs.length := by rw [hB.1]; exact hkn
          rw [List.getElem?_eq_getElem hl] at hc ⊢
          cases hbk : bs[k] with
          | true => rw [hbk] at hc; exact .inl ⟨hkn, ad2, e, hc, rfl⟩
          | false => rw [hbk] at hc; exact .inr (.inl ⟨hkn, ad2, e, hc, by simp⟩)
        · exact .inr (.inr ⟨hkn, by rw [List.getElem?_eq_none (by rw [hB.1]; omega)]; simp⟩)
      clear hB hk
      rcases hcase with ⟨hkn, ad2, rfl, hc, hb⟩ | hcase
      · have hst : Hid (d.crashTo bs torn at_ d.pend (k + 1) = dk.do_ p) := by rw [hstep, Dsk.crash1, if_pos hb]; rfl
        have hc' := ((Fr.refl (fun _ => False) wr).alloc (.cells #[.int .i64 p.1, .string p.2] 151)).cell hc (fun h => h)
        clear hb hstep htr hD' hc
        go_wp2_with (go_at_call 88; refine hdo.mono ?_; rintro e w2 ⟨rfl, hD2, hF2⟩; have hF3 := (hF.alloc (.cells #[.int .i64 p.1, .string p.2] 151)).trans hF2 (fun _ _ e => e); clear hdo hF2)
        go_roundw
        case rel => exact ⟨k + 1, by omega, by go_num, by rw [hst.out]; exact hD2, hF3⟩
        case measure => simp [intOf]; omega
      · have hb : bs[k]? ≠ some true := by rcases hcase with ⟨_, _, _, _, h⟩ | ⟨_, h⟩ <;> exact h
        have hcase' : (k < n ∧ ∃ ad : Addr, A = some ad ∧ (wr.alloc (.cells #[.int .i64 p.1, .string p.2] 151)).cell? (ad.add k) = some (.bool false)) ∨ ¬ k < n := by
          rcases hcase with ⟨h1, ad, h2, h3, _⟩ | ⟨h1, _⟩
          · exact .inl ⟨h1, ad, h2, ((Fr.refl (fun _ => False) wr).alloc (.cells #[.int .i64 p.1, .string p.2] 151)).cell h3 (fun h => h)⟩
          · exact .inr h1
        clear hcase
        by_cases ht : (k : Int) = torn
        · have hst : Hid (d.crashTo bs torn at_ d.pend (k + 1) = dk.tear p at_) := by rw [hstep, Dsk.crash1, if_neg hb, if_pos ht]; rfl
          have ht1 : (k : Int) ≤ torn := by omega
          have ht2 : torn ≤ (k : Int) := by omega
          clear hb hstep hdo hD' ht
          rcases hcase' with ⟨hkn, ad2, rfl, hc⟩ | hkn
          all_goals
            go_wp2_with (go_at_call 89; refine htr.mono ?_; rintro e w2 ⟨rfl, hD2, hF2⟩; have hF3 := (hF.alloc (.cells #[.int .i64 p.1, .string p.2] 151)).trans hF2 (fun _ _ e => e); clear htr hF2)
            go_roundw
            case rel => exact ⟨k + 1, by omega, by go_num, by rw [hst.out]; exact hD2, hF3⟩
            case measure => simp [intOf]; omega
        · have hst : Hid (d.crashTo bs torn at_ d.pend (k + 1) = dk) := by rw [hstep, Dsk.crash1, if_neg hb, if_neg ht]; rfl
          clear hb hstep hdo htr
          rcases hcase' with ⟨hkn, ad2, rfl, hc⟩ | hkn
          all_goals
            go_wp2
            go_roundw
            case rel => exact ⟨k + 1, by omega, by go_num, by rw [hst.out]; exact hD'.alloc _, hF.alloc _⟩
            case measure => simp [intOf]; omega
    · obtain rfl : k = d.pend.length := by omega
      obtain ⟨c0, c1, c2, c3, c4⟩ := hD.cells
      have f0 := hD.free 0
      have f1 := hD.free 1
      have f4 := hD.free 4
      clear hk
      have e1 := ((hD.blk.set_ 4 (.slice none 0 0)).set_ 0 (.bool false)).set_ 1 (.int .i64 0)
      have e2 := ((hD.map.setCell (p := ⟨g, 4, none⟩) (fun e => hD.gb e.symm) (.slice none 0 0)).setCell (p := ⟨g, 0, none⟩) (fun e => hD.gb e.symm) (.bool false)).setCell (p := ⟨g, 1, none⟩) (fun e => hD.gb e.symm) (.int .i64 0)
      have hfin : DskAt (((wr.setCell ⟨g, 4, none⟩ (.slice none 0 0)).setCell ⟨g, 0, none⟩ (.bool false)).setCell ⟨g, 1, none⟩ (.int .i64 0)) g b (.slice none 0 0) (d.crash bs torn at_) :=
        ⟨e1, e2, World.ownsRow_nil .., by simp [Value.ownBlock], hD.gb, by simp [Value.ownBlock]⟩
      have HF := Lib.hid hfin
      clear hfin hD e1 e2
      go_wp2
      go_end0
      exact ⟨rfl, HF.out, ((hF.setCell (fun _ => .inl rfl) _).setCell (fun _ => .inl rfl) _).setCell (fun _ => .inl rfl) _⟩
end Go.Proofs.YthlbciinpidedaaGreat
/- The contract of (*Disk).Read: the last pending write to a sector, or what it holds. -/
namespace Go.Proofs.YthlbciinpidedaaGreat
set_option linter.unusedSimpArgs false
set_option linter.unusedVariables false
set_option maxRecDepth 100000
open Go.RowKit Go.Shelf
attribute [local go_sem] Oper.semAt_some

theorem backTo_all (zs : List (Int × ByteArray)) : (backTo zs zs.length).map (·.2) = zs.reverse := by
  apply List.ext_getElem
  · simp [backTo]
  · intro i h1 h2
    have hi : i < zs.length := by simpa using h2
    simp only [backTo, List.map_map, List.getElem_map, List.getElem_range, Function.comp, List.getElem_reverse]
    rw [List.getElem?_eq_getElem (by omega)]
    rfl
def Dsk.read (d : Dsk) (i : Int) : ByteArray := ((d.pend.reverse.find? fun p => p.1 == i).map (·.2)).getD (d.holds i)
theorem Dsk.read_none (d : Dsk) (i : Int) (h : ∀ x ∈ backTo d.pend d.pend.length, x.2.1 ≠ i) : d.read i = d.holds i := by
  unfold Dsk.read
  have : d.pend.reverse.find? (fun p => p.1 == i) = none := by
    rw [← backTo_all, List.find?_eq_none]
    intro p hp
    obtain ⟨x, hx, rfl⟩ := List.mem_map.1 hp
    simpa using h x hx
  rw [this]; rfl
theorem Dsk.read_some (d : Dsk) (i : Int) (k : Nat) (hk : k ≤ d.pend.length) (ini : List (Nat × Int × ByteArray)) (last : Nat × Int × ByteArray) (e : backTo d.pend k = ini ++ [last]) (h : ∀ x ∈ ini, x.2.1 ≠ i) (hl : last.2.1 = i) : d.read i = last.2.2 := by
  unfold Dsk.read
  have hall : d.pend.reverse = (ini.map (·.2)) ++ last.2 :: ((backTo d.pend d.pend.length).drop k).map (·.2) := by
    rw [← backTo_all]
    have : backTo d.pend d.pend.length = backTo d.pend k ++ (backTo d.pend d.pend.length).drop k := by
      have h1 : backTo d.pend k = (backTo d.pend d.pend.length).take k := by
        unfold backTo
        rw [← List.map_take, List.take_range, Nat.min_eq_left hk]
      rw [h1, List.take_append_drop]
    rw [e] at this
    have h3 := congrArg (List.map (·.2)) this
    simp only [List.map_append, List.map_cons, List.append_assoc, List.cons_append, List.nil_append] at h3
    exact h3
  have hini : (ini.map (·.2)).find? (fun p => p.1 == i) = none := by
    rw [List.find?_eq_none]
    intro p hp
    obtain ⟨x, hx, rfl⟩ := List.mem_map.1 hp
    simpa using h x hx
  rw [hall, List.find?_append, hini, List.find?_cons_of_pos (by simpa using hl)]
  rfl

/-- A block that is one write, and may be read. -/
def Boxed2 (W : World) (B : Nat) (p : Int × ByteArray) : Prop := Blk W B 151 #[.int .i64 p.1, .string p.2]
theorem Boxed2.keep {W W' : World} {B : Nat} {p : Int × ByteArray} {row : Option Nat} (h : Boxed2 W B p) (hg : W.grownBy W' row) (hr : ∀ r, row = some r → ∃ o : Obj, W.heap[r]? = some o ∧ o.isCells = false) : Boxed2 W' B p := by
  refine Blk.grown h hg (fun e => ?_)
  obtain ⟨o, h1, h2⟩ := hr B e.symm
  unfold Boxed2 Blk at h
  rw [h] at h1
  cases h1
  simp [Obj.isCells] at h2

set_option maxRecDepth 100000 in
set_option maxHeartbeats 4000000 in
theorem Read_ok (g b : Nat) (v : Value) (d : Dsk) (i : Int) (w : World) (h : DskAt w g b v d) (hi : 0 ≤ i ∧ i < d.n) (hp : d.pend.length ≤ 1000000000) :
    Calls Tryz.prog 43 #[.pointer (some ⟨g, 0, none⟩), .int .i64 i] w fun e w' => e = .returned (.tuple #[.string (d.read i), .int .i64 0]) ∧ Below w.heap.size w w' := by
  have hd : decide (0 ≤ i ∧ i < d.n) = true := by simpa using hi
  clear hi
  obtain ⟨A, c, rfl, _⟩ := own_slice2 h.row
  refine (callsIn_wide (n := 4)).1 ?_
  refine callsIn_of_wp_marks Tryz.func43 rfl trivial ?_ rfl
  simp only [Tryz.ntmps43, List.size_toArray, List.length_cons, List.length_nil, Nat.reduceAdd, Nat.reduceSub, Array.replicate_succ, Array.replicate_zero, List.push_toArray, List.append_toArray, List.nil_append, List.cons_append]
  have h3 := ((h.alloc (.cells #[.int .i64 i] 3)).alloc (.cells #[.string ⟨#[]⟩] 9)).alloc (.cells #[.int .i64 0] 30)
  have hhas := has_any g b _ d i _ h3
  rw [hd] at hhas
  obtain ⟨c0, c1, c2, c3, c4⟩ := h3.cells
  have hz := h.blk.lt
  have hlt := fun q hq => h.lt (k := q) hq
  have hat : ∀ (W : World), Below w.heap.size w W → ∀ j, j < d.pend.length → ∃ ad, A = some ad ∧ (ad.add (j * 2)).block < w.heap.size ∧ W.cell? (ad.add (j * 2)) = some (.int .i64 (d.pend[j]?.getD (0, ByteArray.empty)).1) ∧ W.cell? ⟨(ad.add (j * 2)).block, (ad.add (j * 2)).off + 1, none⟩ = some (.string (d.pend[j]?.getD (0, ByteArray.empty)).2) := by
    intro W hb j hj
    obtain ⟨ad, e, h1, h2⟩ := h.at_ (List.getElem?_eq_getElem hj)
    rw [List.getElem?_eq_getElem hj]
    have hbl : (ad.add (j * 2)).block < w.heap.size := lt_of_cell h1
    exact ⟨ad, e, hbl, (hb.cell hbl).trans h1, (hb.cell (p := ⟨(ad.add (j * 2)).block, (ad.add (j * 2)).off + 1, none⟩) hbl).trans h2⟩
  have b0 := (((Boxed.new w 3 (.int .i64 i)).alloc (.cells #[.string ⟨#[]⟩] 9)).alloc (.cells #[.int .i64 0] 30)).alloc (.cells #[.slice A d.pend.length c] 121)
  have b1 := ((Boxed.new (w.alloc (.cells #[.int .i64 i] 3)) 9 (.string ⟨#[]⟩)).alloc (.cells #[.int .i64 0] 30)).alloc (.cells #[.slice A d.pend.length c] 121)
  have b2 := (Boxed.new ((w.alloc (.cells #[.int .i64 i] 3)).alloc (.cells #[.string ⟨#[]⟩] 9)) 30 (.int .i64 0)).alloc (.cells #[.slice A d.pend.length c] 121)
  have b3 := Boxed.new (((w.alloc (.cells #[.int .i64 i] 3)).alloc (.cells #[.string ⟨#[]⟩] 9)).alloc (.cells #[.int .i64 0] 30)) 121 (.slice A d.pend.length c)
  simp only [World.size_alloc] at b1 b2 b3
  have hB0 : Below w.heap.size w ((((w.alloc (.cells #[.int .i64 i] 3)).alloc (.cells #[.string ⟨#[]⟩] 9)).alloc (.cells #[.int .i64 0] 30)).alloc (.cells #[.slice A d.pend.length c] 121)) := ((((Below.refl _ w).alloc (Nat.le_refl _) _).alloc (by simp) _).alloc (by simp; omega) _).alloc (by simp; omega) _
  have hsz : ((((w.alloc (.cells #[.int .i64 i] 3)).alloc (.cells #[.string ⟨#[]⟩] 9)).alloc (.cells #[.int .i64 0] 30)).alloc (.cells #[.slice A d.pend.length c] 121)).heap.size = w.heap.size + 4 := by simp
  gi_wp2_with (first | (refine ⟨trivial, ?_⟩; gi_at_call 82; refine (callsIn_wide.2 hhas).mono ?_; rintro e w' ⟨rfl, rfl⟩) | (refine ⟨trivial, ?_⟩; gi_at_call 83; refine (back_in Fence.wide _ trivial rfl _ _ _ _).mono ?_; rintro e w' ⟨rfl, rfl⟩))
  clear c0 c1 c2 c3 c4 hhas h3
  obtain ⟨W0, hW0⟩ : ∃ W0, (((w.alloc (.cells #[.int .i64 i] 3)).alloc (.cells #[.string ⟨#[]⟩] 9)).alloc (.cells #[.int .i64 0] 30)).alloc (.cells #[.slice A d.pend.length c] 121) = W0 := ⟨_, rfl⟩
  rw [hW0] at b0 b1 b2 b3 hB0 hsz ⊢
  clear hW0
  refine wpIn_rangeFunc_ownH (F := Fence.wide) (n := 4) rfl (by omega) (gf := 121) (lb := #[.pointer (some ⟨w.heap.size + 1 + 1 + 1, 0, none⟩)]) rfl trivial (enters_of Tryz.func121 (by kernel_rfl) rfl)
    (back_stops Fence.wide 3 trivial rfl (by omega) (w.heap.size + 1 + 1 + 1) W0.heap.size A c d.pend hp W0 (by omega) (Nat.le_refl _) b3.cell (fun j hj => by obtain ⟨ad, e, h1, h2, h3⟩ := hat W0 hB0 j hj; exact ⟨ad, e, by omega, h2, h3⟩)) belowK_t (belowK_b (Nat.le_refl _)) (Below.refl _ _) (fun _ => rfl)
    (fun pre W => (((((∀ x ∈ pre, x.2.1 ≠ i) ∧ Boxed W w.heap.size 3 (.int .i64 i)) ∧ Boxed W (w.heap.size + 1) 9 (.string ⟨#[]⟩)) ∧ Boxed W (w.heap.size + 1 + 1) 30 (.int .i64 0)) ∧ Below W0.heap.size W0 W))
    (fun c' pre W => (((c' = .ret ∧ ∃ ini last, pre = ini ++ [last] ∧ (∀ x ∈ ini, x.2.1 ≠ i) ∧ last.2.1 = i ∧ Boxed W (w.heap.size + 1) 9 (.string last.2.2)) ∧ Boxed W (w.heap.size + 1 + 1) 30 (.int .i64 0)) ∧ Below w.heap.size w W))
    (OwnFrom.and (OwnFrom.and (OwnFrom.and (OwnFrom.and (ownFrom_pure _ _) (Own.from (boxed_own _ _ _) _)) (Own.from (boxed_own _ _ _) _)) (Own.from (boxed_own _ _ _) _)) (ownFrom_below (Nat.le_refl _) (by omega)))
    (fun c' => OwnFrom.and (OwnFrom.and (fun s X Y row hs hg hr => by
      obtain ⟨e0, ini, last, e1, e2, e3, e4⟩ := hs
      exact ⟨e0, ini, last, e1, e2, e3, boxed_own (w.heap.size + 1) 9 (fun (_ : Unit) => Value.string last.2.2) () X Y row e4 hg (fun r e => (hr r e).2)⟩) (Own.from (boxed_own _ _ _) _)) (ownFrom_below (Nat.le_refl _) (by omega)))
    ⟨⟨⟨⟨by simp, b0⟩, b1⟩, b2⟩, Below.refl _ _⟩
    (fun x a' W => ∃ Bx, W0.heap.size ≤ Bx ∧ Boxed2 W Bx x.2 ∧ a' = { tmps := #[.pointer (some ⟨g, 0, none⟩), .int .i64 i, undef, .pointer (some ⟨w.heap.size, 0, none⟩), .pointer (some ⟨w.heap.size + 1, 0, none⟩), .pointer (some ⟨w.heap.size + 1 + 1, 0, none⟩), undef, .pointer (some ⟨Bx, 0, none⟩), .pointer (some ⟨g, 0, none⟩), .int .i64 i, .bool true, .bool false, .pointer (some ⟨g, 0, none⟩), .pointer (some ⟨g, 0, none⟩), .pointer (some ⟨g, 4, none⟩), .slice A d.pend.length c, .func (.func 121) #[] #[.pointer (some ⟨w.heap.size + 1 + 1 + 1, 0, none⟩)], .int .i64 (x.1 : Int), .agg #[.int .i64 x.2.1, .string x.2.2], undef, undef, undef, undef, undef, undef, undef, undef, undef], defers := [] })
    (fun x a' _ X Y row hs hg hr => by obtain ⟨Bx, e1, e2, e3⟩ := hs; exact ⟨Bx, e1, e2.keep hg (fun r e => (hr r e).2), e3⟩)
    ?assign ?body ?done ?stop
  case assign =>
    rintro l pre x W K ⟨⟨⟨⟨hp1, bA⟩, bB⟩, bC⟩, hB1⟩ hK
    gi_wp2
    exact hK _ _ ((KeepsOthers.alloc _ _).from _) ((Below.refl _ W).alloc hB1.size _) ⟨⟨⟨⟨hp1, bA.alloc _⟩, bB.alloc _⟩, bC.alloc _⟩, hB1.alloc hB1.size _⟩ ⟨W.heap.size, hB1.size, Blk.new _ _ _, rfl⟩
  case body =>
    rintro l pre x a' W hl ⟨r, hr⟩ ⟨⟨⟨⟨hp1, bA⟩, bB⟩, bC⟩, hB1⟩ ⟨Bx, hBx, bX, rfl⟩ hlt'
    have cA := bA.cell
    have cB := bB.cell
    have fB := bB.frozen
    have cC := bC.cell
    have fC := bC.frozen
    have x0 : W.cell? ⟨Bx, 0, none⟩ = some (.int .i64 x.2.1) := bX.cell 0
    have x1 : W.cell? ⟨Bx, 1, none⟩ = some (.string x.2.2) := bX.cell 1
    have hBw := hB0.trans (hB1.mono (B' := w.heap.size) (by omega))
    by_cases hx : x.2.1 = i
    · have hx1 : x.2.1 ≤ i := by omega
      have hx2 : i ≤ x.2.1 := by omega
      have HX := Lib.hid hx
      clear hx
      gi_wp2
      exact ⟨((KeepsOthers.setCell _ _ _).trans (KeepsOthers.setCell _ _ _)).from _, ⟨⟨rfl, pre, x, rfl, hp1, HX.out, (bB.set _).other (by omega) _⟩, (bC.other (by omega) _).set _⟩, (hBw.setCell (p := ⟨w.heap.size + 1, 0, none⟩) (by simp) _).setCell (p := ⟨w.heap.size + 1 + 1, 0, none⟩) (by simp; omega) _⟩
    · gi_wp2
      exact ⟨KeepsFrom.refl _ _, Below.refl _ _, ⟨⟨⟨fun z hz => (List.mem_append.1 hz).elim (hp1 z) (fun e => by simp at e; subst e; exact hx), bA⟩, bB⟩, bC⟩, hB1⟩
  case done =>
    rintro D ys W hD rfl ⟨⟨⟨⟨hp1, bA⟩, bB⟩, bC⟩, hB1⟩ hK
    have hBw := hB0.trans (hB1.mono (B' := w.heap.size) (by omega))
    have hread := d.read_none i hp1
    have hho := holds_any g b _ d i W (h.keep (S := fun _ => False) (Fr.of_below hBw) (fun _ _ h => h))
    rw [← hread] at hho
    obtain ⟨rd, hrd⟩ : ∃ rd, d.read i = rd := ⟨_, rfl⟩
    rw [hrd] at hho
    have HRD := Lib.hid hrd
    have cA := bA.cell
    clear hread hrd
    gi_wp2_with (refine ⟨trivial, ?_⟩; gi_at_call 84; refine (callsIn_wide.2 hho).mono ?_; rintro e W1 ⟨rfl, hb1⟩; have bB' : Boxed W1 (w.heap.size + 1) 9 (.string ⟨#[]⟩) := (hb1.block _ bB.lt).trans bB; have bC' : Boxed W1 (w.heap.size + 1 + 1) 30 (.int .i64 0) := (hb1.block _ bC.lt).trans bC; have cB := bB'.cell; have fB := bB'.frozen; have cC := bC'.cell; have fC := bC'.frozen; have hK1 : W1.heap[D]? = some (.deferred (some [])) := (hb1.block _ (Array.getElem?_eq_some_iff.1 hK).1).trans hK)
    have hK2 := ((KeepsOthers.setCell W1 ⟨w.heap.size + 1, 0, none⟩ (.string rd)).trans (KeepsOthers.setCell _ ⟨w.heap.size + 1 + 1, 0, none⟩ (.int .i64 0))).same D _ hK1 rfl
    refine ⟨by simp, .inl ⟨_, _, rfl, run_takeDeferred hK2, ?_⟩⟩
    have hc5 := cell_kept ((bB'.set (.string rd)).other (B' := w.heap.size + 1 + 1) (by omega) (.int .i64 0)).cell (grownBy_putObj' _ D (.deferred none)) (fun r e => by cases e; exact ⟨_, hK2, rfl⟩)
    have hc6 := cell_kept ((bC'.other (B' := w.heap.size + 1) (by omega) (.string rd)).set (.int .i64 0)).cell (grownBy_putObj' _ D (.deferred none)) (fun r e => by cases e; exact ⟨_, hK2, rfl⟩)
    have hBz := hBw.size
    have hB2 : Below w.heap.size w ((W1.setCell ⟨w.heap.size + 1, 0, none⟩ (.string rd)).setCell ⟨w.heap.size + 1 + 1, 0, none⟩ (.int .i64 0)) := ((hBw.trans (hb1.mono hBz)).setCell (p := ⟨w.heap.size + 1, 0, none⟩) (by simp) _).setCell (p := ⟨w.heap.size + 1 + 1, 0, none⟩) (by simp; omega) _
    refine ⟨.tuple #[.string rd, .int .i64 0], ?_, by rw [HRD.out], hB2.trans (belowK_b (w := w) (Nat.le_refl _) _ D _ _ (by omega) hK2 rfl rfl)⟩
    simp [results, Tryz.f43, go_sem, hc5, hc6]
  case stop =>
    rintro D c' pre W hD ⟨k, hk, rfl⟩ ⟨⟨⟨rfl, ini, last, e1, e2, e3, bB⟩, bC⟩, hBw⟩ hK
    have hread := d.read_some i k hk ini last e1 e2 e3
    gi_wp2
    refine ⟨by simp, .inl ⟨_, _, rfl, run_takeDeferred hK, ?_⟩⟩
    have hc5 := cell_kept bB.cell (grownBy_putObj' _ D (.deferred none)) (fun r e => by cases e; exact ⟨_, hK, rfl⟩)
    have hc6 := cell_kept bC.cell (grownBy_putObj' _ D (.deferred none)) (fun r e => by cases e; exact ⟨_, hK, rfl⟩)
    refine ⟨.tuple #[.string last.2.2, .int .i64 0], ?_, by rw [hread], hBw.trans (belowK_b (w := w) (Nat.le_refl _) W D _ _ (by omega) hK rfl rfl)⟩
    simp [results, Tryz.f43, go_sem, hc5, hc6]

set_option maxHeartbeats 1000000 in
theorem Read_bad (g b : Nat) (v : Value) (d : Dsk) (i : Int) (w : World) (h : DskAt w g b v d) (hi : ¬ (0 ≤ i ∧ i < d.n)) :
    Calls Tryz.prog 43 #[.pointer (some ⟨g, 0, none⟩), .int .i64 i] w fun e w' => e = .returned (.tuple #[.string ⟨#[]⟩, .int .i64 1]) ∧ Below w.heap.size w w' := by
  have hd : decide (0 ≤ i ∧ i < d.n) = false := by simpa using hi
  clear hi
  have h3 := ((h.alloc (.cells #[.int .i64 i] 3)).alloc (.cells #[.string ⟨#[]⟩] 9)).alloc (.cells #[.int .i64 0] 30)
  have hhas := has_any g b _ d i _ h3
  rw [hd] at hhas
  clear h3 h
  go_enter Tryz.func43, Tryz.ntmps43
  go_wp2_with (go_at_call 82; refine hhas.mono ?_; rintro e w' ⟨rfl, rfl⟩)
  exact bodyPost_ret (v := .tuple #[.string ⟨#[]⟩, .int .i64 1]) (by simp [results, Tryz.f43, go_sem]) rfl ⟨rfl, (((Below.refl _ w).alloc (Nat.le_refl _) _).alloc (by simp) _).alloc (by simp; omega) _⟩
end Go.Proofs.YthlbciinpidedaaGreat
/- Zero: a sector's bytes. -/
namespace Go.Proofs.YthlbciinpidedaaGreat
set_option linter.unusedSimpArgs false
set_option linter.unusedVariables false
set_option maxRecDepth 100000
open Go.RowKit
attribute [local go_sem high] run_mx run_mn

def zeroN (k : Nat) : ByteArray := ⟨Array.replicate k 0⟩
theorem zeroN_succ (k : Nat) : zeroN (k + 1) = zeroN k ++ ⟨#[0]⟩ := by
  apply ByteArray.ext
  show Array.replicate (k + 1) 0 = (zeroN k ++ ⟨#[0]⟩).data
  rw [ByteArray.data_append]
  show _ = Array.replicate k 0 ++ #[0]
  rw [Array.replicate_succ]; rfl

set_option maxRecDepth 100000 in
theorem Zero_any (w : World) : Calls Tryz.prog 69 #[] w fun e w' => e = .returned (.string zeros) ∧ w = w' := by
  go_enter Tryz.func69, Tryz.ntmps69
  go_wp2
  go_loop [1, 2] (fun s i => ∃ k : Nat, k ≤ 128 ∧ i = .int .i64 k ∧ s = .string (zeroN k)) (fun _ i => 128 - (intOf i).toNat)
  case atStart => exact ⟨0, by omega, rfl, rfl⟩
  case round =>
    obtain ⟨k, hk, rfl, rfl⟩ := hrel
    by_cases hlt : k < 128
    · have hadd : (Op.stringOp .add (zeroN k) ⟨#[0]⟩).run Tryz.prog w = .ok (.string (zeroN (k + 1))) w := by
        rw [run_string_add_sum, ← zeroN_succ]
        show (Array.replicate k (0 : UInt8)).size + 1 ≤ _
        rw [Array.size_replicate]; omega
      go_wp2
      go_round
      case rel => exact ⟨k + 1, by omega, by go_num, rfl⟩
      case measure => simp [intOf]; omega
    · obtain rfl : k = 128 := by omega
      go_wp2
      go_ret
      exact ⟨rfl, rfl⟩

end Go.Proofs.YthlbciinpidedaaGreat
